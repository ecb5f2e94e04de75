/- Paths by the program. No condition. -/
import Derived.Test.YthfdelcopmmblaaRGrU
import Derived.Test.YthfdelcopmmblaaRGrM
namespace Go.Proofs.Ythfdelcopmmblaa
set_option maxHeartbeats 20000000
set_option linter.unusedVariables false
set_option linter.unusedSimpArgs false
open Go.Pv
open Go.ChangeShapes Go.WideShapes Go.ChangeAt Go.RowKit
attribute [local irreducible] RunU WpA Step CallG CallNG Done DoneN
instance fnOk44 : FnOk Try.prog 44 := ⟨_, Try.func44, rfl, by decide⟩
theorem pfL_drop {g : Int → List Int} {u : Int} {l : List Int} {j : Nat} (h : j < l.length) (he : l.getD j 0 = u ∨ g (l.getD j 0) = []) : pfL g u (l.drop j) = pfL g u (l.drop (j + 1)) := by
  rw [List.drop_eq_getElem_cons h, pfL]
  have e : l.getD j 0 = l[j] := by simp [List.getD, h]
  rw [e] at he
  by_cases h1 : l[j] = u
  · rw [if_pos h1]
  · rw [if_neg h1, if_pos (he.resolve_left h1)]
theorem pfL_hit {g : Int → List Int} {u : Int} {l : List Int} {j : Nat} (h : j < l.length) (h1 : l.getD j 0 ≠ u) (h2 : g (l.getD j 0) ≠ []) : pfL g u (l.drop j) = g (l.getD j 0) := by
  rw [List.drop_eq_getElem_cons h, pfL]
  have e : l.getD j 0 = l[j] := by simp [List.getD, h]
  rw [e] at h1 h2
  rw [if_neg h1, if_neg h2, e]
theorem solid_rNil (l : List Int) : (rNil l).solid = true := by
  cases l with
  | nil => rfl
  | cons x l => show D.solid (.sl true 1 (ints (x :: l))) = true; simp only [D.solid, solids_ints, Bool.and_self]
theorem pathFrom_c {w : List Int} {E : List (List Int)} (hg : IsGr w E) (k : Int) : ∀ (m : Nat) (i : Int) (t : List Int), NB E (i :: t) → (0 ≤ i ∧ i < w.length) → w.length < t.length + 1 + m →
    CallA Try.prog 44 [aLL (nbL E w.length), aI i, aI k, aI (t.headD (-1))] [rNil (pf E k m i (t.headD (-1)))] []
  | 0, i, t, h, hi, hm => by have := h.len hg hi; omega
  | m + 1, i, t, h, hi, hm => by
    have IH : ∀ c, c ∈ kids E i (t.headD (-1)) → CallA Try.prog 44 [aLL (nbL E w.length), aI c, aI k, aI i] [rNil (pf E k m c i)] [] := fun c hc =>
      pathFrom_c hg k m c (i :: t) (kid_nb hg.2.2.1 h hc) (kid_in hg.2.2.1 hc) (by simp only [List.length_cons]; omega)
    have hkid : ∀ j, j ∈ near E i → j ≠ t.headD (-1) → j ∈ kids E i (t.headD (-1)) := fun j h1 h2 => by
      simp only [kids, List.mem_filter, decide_eq_true_eq]; exact ⟨h1, h2⟩
    have hlen := hg.1.2
    have hNl := nbL_len E w.length
    have hNv : (nbL E w.length).getD (i.toNat * 1) [] = near E i := by
      rw [Nat.mul_one, nbL_at E (by omega)]; congr 1; omega
    have hNr : ((nbL E w.length).getD (i.toNat * 1) []).length = (near E i).length := by rw [hNv]
    have hnl := near_le hg.2.2.1 i
    have hpl : ∀ c, c ∈ kids E i (t.headD (-1)) → (pf E k m c i).length ≤ 1000 := fun c hc => by
      have hcr := kid_in hg.2.2.1 hc
      have hcn := kid_nb hg.2.2.1 h hc
      have law := pf_law hg k m c (i :: t) hcn hcr (by simp only [List.length_cons]; omega)
      by_cases hb : ∃ u, Bw E c (i :: t) k u
      · obtain ⟨u, l, p, h1, h2, h3⟩ := hb
        have e := law.1 l p h1 h2
        simp only [List.headD_cons] at e
        rw [e, List.length_cons, List.length_reverse]
        have h4 : (k :: l).length ≤ w.length := nodup_len w.length _ (hg.forest _ h1) (fun y hy => by
          have hk2 : 0 ≤ k ∧ k < w.length := (show Bw E c (i :: t) k u from ⟨l, p, h1, h2, h3⟩).range hg.2.2.1 hcr
          exact h1.range hg.2.2.1 hk2 y hy)
        rw [h2] at h4
        simp at h4
        omega
      · have e := law.2 hb
        simp only [List.headD_cons] at e
        rw [e]; simp
    have hpf : pf E k (m + 1) i (t.headD (-1)) = if i = k then [i] else if pfL (fun j => pf E k m j i) (t.headD (-1)) (near E i) = [] then [] else i :: pfL (fun j => pf E k m j i) (t.headD (-1)) (near E i) := rfl
    generalize t.headD (-1) = u at *
    generalize hR : near E i = R at *
    by_cases hik : i = k
    · rw [hpf, if_pos hik]
      refine callA_of _ Try.func44 rfl Try.ntmps44 (by first | exact ⟨rfl, rfl⟩ | (simp only [List.all_cons, List.all_nil, V.solid, D.solid, D.solids, solids_ints, solids_bools, solids_LL, Bool.and_self, Bool.and_true, and_self]; done) | simp [V.solid, D.solid, D.solids, solids_lits, solids_ints, solids_bools, solids_LL]) ?_
      repeat' (first | (guard_target =~ WpA _ _ _ _ _ _; first | refine WpA.seq ?_ | refine WpA.drawU ?_ | refine WpA.regionU ?_ | refine WpA.block ?_ | refine WpA.ret ?_ | refine WpA.skip ?_ | refine WpA.exit ?_ | refine WpA.cond_true rfl ?_ | refine WpA.cond_false rfl ?_ | refine WpA.cond_ntrue rfl ?_ | refine WpA.cond_dec rfl (fun _ => ?_) (fun _ => ?_) | refine WpA.cond_not rfl (fun _ => ?_) (fun _ => ?_) | refine WpA.cond rfl (fun _ => ?_) (fun _ => ?_)) | (guard_target =~ RunU _ _ _ _ [] _ _ _ _; first | refine RunU.nilL ?_ | refine RunU.nilD (by kernel_rfl) ?_) | (guard_target =~ RunU _ _ _ _ (Oper.mk (some 8) (Op.assign (Operand.const (Value.slice none 0 0))) _ _ _ none :: _) _ _ _ _; refine RunU.cons (step_const rfl rfl) ?_) | (guard_target =~ RunU _ _ _ _ (Oper.mk _ _ _ _ _ none :: _) _ _ _ _; refine RunU.cons step_any ?_) | refine Then.next ?_ | refine InBlock.next ?_ | refine Done.ret (.one (by first | exact .c rfl | exact .own rfl | exact .als rfl rfl | exact .ptr rfl rfl | exact .part rfl rfl rfl) .nil) (.sh (.sh (.sh (.sh .nil)))) ?_ rfl)
      all_goals first | rfl | (exfalso; omega) | skip
    · rw [if_neg hik] at hpf
      have hlast : pfL (fun j => pf E k m j i) u R = pfL (fun j => pf E k m j i) u (R.drop 0) := by simp
      rw [hpf]
      refine callA_of _ Try.func44 rfl Try.ntmps44 ⟨by simp only [List.all_cons, List.all_nil, solid_rNil, Bool.and_true], rfl⟩ ?_
      repeat' (first | (guard_target =~ WpA _ _ _ _ _ _; first | refine WpA.seq ?_ | refine WpA.drawU ?_ | refine WpA.regionU ?_ | refine WpA.block ?_ | refine WpA.ret ?_ | refine WpA.skip ?_ | refine WpA.exit ?_ | refine WpA.cond_true rfl ?_ | refine WpA.cond_false rfl ?_ | refine WpA.cond_ntrue rfl ?_ | refine WpA.cond_dec rfl (fun _ => ?_) (fun _ => ?_) | refine WpA.cond_not rfl (fun _ => ?_) (fun _ => ?_) | refine WpA.cond rfl (fun _ => ?_) (fun _ => ?_)) | (guard_target =~ RunU _ _ _ _ [] _ _ _ _; first | refine RunU.nilL ?_ | refine RunU.nilD (by kernel_rfl) ?_) | (guard_target =~ RunU _ _ _ _ (Oper.mk (some 8) (Op.assign (Operand.const (Value.slice none 0 0))) _ _ _ none :: _) _ _ _ _; refine RunU.cons (step_const rfl rfl) ?_) | (guard_target =~ RunU _ _ _ _ (Oper.mk _ _ _ _ _ none :: _) _ _ _ _; refine RunU.cons step_any ?_) | refine Then.next ?_ | refine InBlock.next ?_ | refine Done.ret (.one (by first | exact .c rfl | exact .own rfl | exact .als rfl rfl | exact .ptr rfl rfl | exact .part rfl rfl rfl) .nil) (.sh (.sh (.sh (.sh .nil)))) ?_ rfl)
      all_goals try (exfalso; omega)
      refine WpA.loop_slots (ι := Nat) (fun j => [(0, .c (.sl false 1 (LLs (nbL E w.length)))), (1, vGI i), (2, vGI k), (3, vGI u), (20, .c (.sl false 1 (ints ((nbL E w.length).getD (i.toNat * 1) [])))), (21, vGI R.length), (22, vGI j)]) (fun j => j ≤ R.length ∧ pfL (fun j => pf E k m j i) u R = pfL (fun j => pf E k m j i) u (R.drop j)) (fun j => R.length - j) 0 ⟨by omega, hlast⟩ ⟨rfl, rfl, rfl, rfl, rfl, int_eq (by rw [hNr]), rfl, trivial⟩ ?_
      rintro j s nx ⟨hj, hq⟩
      by_cases hlt : j < R.length
      · have hce : ((nbL E w.length).getD (i.toNat * 1) []).getD (j * 1) 0 = R.getD j 0 := by rw [hNv, Nat.mul_one]
        have hcm : R.getD j 0 ∈ R := getD_mem hlt
        by_cases hcu : ((nbL E w.length).getD (i.toNat * 1) []).getD (j * 1) 0 = u
        · have hq2 := pfL_drop (g := fun j => pf E k m j i) (u := u) hlt (.inl (by rw [← hce]; exact hcu))
          clear hpl hpf IH hkid
          repeat' (first | (guard_target =~ WpA _ _ _ _ _ _; first | refine WpA.seq ?_ | refine WpA.drawU ?_ | refine WpA.regionU ?_ | refine WpA.block ?_ | refine WpA.ret ?_ | refine WpA.skip ?_ | refine WpA.exit ?_ | refine WpA.cond_true rfl ?_ | refine WpA.cond_false rfl ?_ | refine WpA.cond_ntrue rfl ?_ | refine WpA.cond_dec rfl (fun _ => ?_) (fun _ => ?_) | refine WpA.cond_not rfl (fun _ => ?_) (fun _ => ?_) | refine WpA.cond rfl (fun _ => ?_) (fun _ => ?_)) | (guard_target =~ RunU _ _ _ _ [] _ _ _ _; first | refine RunU.nilL ?_ | refine RunU.nilD (by kernel_rfl) ?_) | (guard_target =~ RunU _ _ _ _ (Oper.mk _ _ _ _ _ none :: _) _ _ _ _; refine RunU.cons step_any ?_) | refine Then.next ?_ | refine InBlock.next ?_ | refine Done.ret (.one (by first | exact .c rfl | exact .own rfl | exact .als rfl rfl | exact .ptr rfl rfl | exact .part rfl rfl rfl) .nil) (.sh (.sh (.sh (.sh .nil)))) ?_ rfl)
          all_goals try (exfalso; omega)
          exact ⟨j + 1, ⟨by omega, hq.trans hq2⟩, ⟨rfl, rfl, rfl, rfl, rfl, rfl, int_eq (by omega), trivial⟩, by omega⟩
        · have hck := hkid _ hcm (by rw [← hce]; exact hcu)
          have hC := IH _ hck
          have hl := hpl _ hck
          rw [← hce] at hC hl
          cases hgc : pf E k m (((nbL E w.length).getD (i.toNat * 1) []).getD (j * 1) 0) i with
          | nil =>
            have hq2 := pfL_drop (g := fun j => pf E k m j i) (u := u) hlt (.inr (by rw [← hce]; exact hgc))
            rw [hgc] at hC
            have hC2 : CallA Try.prog 44 [aLL (nbL E w.length), aI (((nbL E w.length).getD (i.toNat * 1) []).getD (j * 1) 0), aI k, aI i] [.one (.lit (.slice none 0 0))] [] := hC
            clear hpl hpf IH hkid hC
            repeat' (first | (guard_target =~ WpA _ _ _ _ _ _; first | refine WpA.seq ?_ | refine WpA.drawU ?_ | refine WpA.regionU ?_ | refine WpA.block ?_ | refine WpA.ret ?_ | refine WpA.skip ?_ | refine WpA.exit ?_ | refine WpA.cond_true rfl ?_ | refine WpA.cond_false rfl ?_ | refine WpA.cond_ntrue rfl ?_ | refine WpA.cond_dec rfl (fun _ => ?_) (fun _ => ?_) | refine WpA.cond_not rfl (fun _ => ?_) (fun _ => ?_) | refine WpA.cond rfl (fun _ => ?_) (fun _ => ?_)) | (guard_target =~ RunU _ _ _ _ [] _ _ _ _; first | refine RunU.nilL ?_ | refine RunU.nilD (by kernel_rfl) ?_) | (guard_target =~ RunU _ _ _ _ (Oper.mk _ (Op.call ⟨Callee.value _, _, _⟩) _ _ _ none :: _) _ _ _ _; first | refine RunU.cons (step_call (hC2) (.sh (.sh (.sh (.sh .nil)))) (.sh shows_any (.sh shows_any (.sh shows_any (.sh shows_any .nil)))) rfl) ?_) | (guard_target =~ RunU _ _ _ _ (Oper.mk _ _ _ _ _ none :: _) _ _ _ _; refine RunU.cons step_any ?_) | refine Then.next ?_ | refine InBlock.next ?_ | refine Done.ret (.one (by first | exact .c rfl | exact .own rfl | exact .als rfl rfl | exact .ptr rfl rfl | exact .part rfl rfl rfl) .nil) (.sh (.sh (.sh (.sh .nil)))) ?_ rfl)
            all_goals try (exfalso; omega)
            exact ⟨j + 1, ⟨by omega, hq.trans hq2⟩, ⟨rfl, rfl, rfl, rfl, rfl, rfl, int_eq (by omega), trivial⟩, by omega⟩
          | cons x l =>
            have hq2 := pfL_hit (g := fun j => pf E k m j i) (u := u) hlt (by rw [← hce]; exact hcu) (by rw [← hce, hgc]; exact List.cons_ne_nil _ _)
            rw [← hce, hgc] at hq2
            rw [hgc] at hC hl
            have hC2 : CallA Try.prog 44 [aLL (nbL E w.length), aI (((nbL E w.length).getD (i.toNat * 1) []).getD (j * 1) 0), aI k, aI i] [.one (.sl true 1 (ints (x :: l)))] [] := hC
            rw [List.length_cons] at hl
            rw [hq, hq2, if_neg (List.cons_ne_nil _ _)]
            clear hpl hpf IH hkid hC hq hq2
            repeat' (first | (guard_target =~ WpA _ _ _ _ _ _; first | refine WpA.seq ?_ | refine WpA.drawU ?_ | refine WpA.regionU ?_ | refine WpA.block ?_ | refine WpA.ret ?_ | refine WpA.skip ?_ | refine WpA.exit ?_ | refine WpA.cond_true rfl ?_ | refine WpA.cond_false rfl ?_ | refine WpA.cond_ntrue rfl ?_ | refine WpA.cond_dec rfl (fun _ => ?_) (fun _ => ?_) | refine WpA.cond_not rfl (fun _ => ?_) (fun _ => ?_) | refine WpA.cond rfl (fun _ => ?_) (fun _ => ?_)) | (guard_target =~ RunU _ _ _ _ [] _ _ _ _; first | refine RunU.nilL ?_ | refine RunU.nilD (by kernel_rfl) ?_) | (guard_target =~ RunU _ _ _ _ (Oper.mk _ (Op.call ⟨Callee.value _, _, _⟩) _ _ _ none :: _) _ _ _ _; first | refine RunU.cons (step_call (hC2) (.sh (.sh (.sh (.sh .nil)))) (.sh shows_any (.sh shows_any (.sh shows_any (.sh shows_any .nil)))) rfl) ?_) | (guard_target =~ RunU _ _ _ _ (Oper.mk _ _ _ _ _ none :: _) _ _ _ _; refine RunU.cons step_any ?_) | refine Then.next ?_ | refine InBlock.next ?_ | refine Done.ret (.one (by first | exact .c rfl | exact .own rfl | exact .als rfl rfl | exact .ptr rfl rfl | exact .part rfl rfl rfl) .nil) (.sh (.sh (.sh (.sh .nil)))) ?_ rfl)
            all_goals try (exfalso; omega)
            all_goals rfl
      · have ej : j = R.length := by omega
        subst ej
        rw [List.drop_length, show pfL (fun j => pf E k m j i) u [] = [] from rfl] at hq
        rw [hq, if_pos rfl]
        clear hpl hpf IH hkid
        repeat' (first | (guard_target =~ WpA _ _ _ _ _ _; first | refine WpA.seq ?_ | refine WpA.drawU ?_ | refine WpA.regionU ?_ | refine WpA.block ?_ | refine WpA.ret ?_ | refine WpA.skip ?_ | refine WpA.exit ?_ | refine WpA.cond_true rfl ?_ | refine WpA.cond_false rfl ?_ | refine WpA.cond_ntrue rfl ?_ | refine WpA.cond_dec rfl (fun _ => ?_) (fun _ => ?_) | refine WpA.cond_not rfl (fun _ => ?_) (fun _ => ?_) | refine WpA.cond rfl (fun _ => ?_) (fun _ => ?_)) | (guard_target =~ RunU _ _ _ _ [] _ _ _ _; first | refine RunU.nilL ?_ | refine RunU.nilD (by kernel_rfl) ?_) | (guard_target =~ RunU _ _ _ _ (Oper.mk (some 8) (Op.assign (Operand.const (Value.slice none 0 0))) _ _ _ none :: _) _ _ _ _; refine RunU.cons (step_const rfl rfl) ?_) | (guard_target =~ RunU _ _ _ _ (Oper.mk _ _ _ _ _ none :: _) _ _ _ _; refine RunU.cons step_any ?_) | refine Then.next ?_ | refine InBlock.next ?_ | refine Done.ret (.one (by first | exact .c rfl | exact .own rfl | exact .als rfl rfl | exact .ptr rfl rfl | exact .part rfl rfl rfl) .nil) (.sh (.sh (.sh (.sh .nil)))) ?_ rfl)
        all_goals try (exfalso; omega)
        all_goals rfl
end Go.Proofs.Ythfdelcopmmblaa
