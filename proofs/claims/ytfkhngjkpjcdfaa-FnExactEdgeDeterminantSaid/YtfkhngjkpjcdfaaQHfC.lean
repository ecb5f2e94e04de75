/- The splice weights at a vertex, by the program and by the reference. No condition. -/
import Derived.Test.YtfkhngjkpjcdfaaQHfB
import Derived.Test.YtfkhngjkpjcdfaaQHaC
namespace Go.Proofs.Ytfkhngjkpjcdfaa
set_option maxHeartbeats 20000000
set_option linter.unusedVariables false
set_option linter.unusedSimpArgs false
open Go.Pv
open Go.ChangeShapes Go.WideShapes Go.ChangeAt Go.RowKit
attribute [local irreducible] RunU WpA Step CallG CallNG Done DoneN
instance fnOk36 : FnOk Try.prog 36 := ⟨_, Try.func36, rfl, by decide⟩
instance fnOk34 : FnOk Try.prog 34 := ⟨_, Try.func34, rfl, by decide⟩
def wL (f : Int → Int × Bool) (l : List Int) : List Int × Int := if l.all (fun x => (f x).2) = true then (l.map fun x => (f x).1, 0) else ([], 3)
theorem all_getD {p : Int → Bool} {l : List Int} : l.all p = true ↔ ∀ j, j < l.length → p (l.getD j 0) = true := by
  rw [List.all_eq_true]
  constructor
  · intro h j hj; exact h _ (getD_mem hj)
  · intro h x hx
    obtain ⟨j, hj, e⟩ := List.getElem_of_mem hx
    have := h j hj
    rw [List.getD_eq_getElem?_getD, List.getElem?_eq_getElem hj, e] at this
    exact this
theorem wL_ok {f : Int → Int × Bool} {l : List Int} (h : ∀ j, j < l.length → (f (l.getD j 0)).2 = true) : wL f l = (l.map fun x => (f x).1, 0) := if_pos (all_getD.2 h)
theorem wL_bad {f : Int → Int × Bool} {l : List Int} {j : Nat} (hj : j < l.length) (h : (f (l.getD j 0)).2 = false) : wL f l = ([], 3) := if_neg fun e => by
  have := all_getD.1 e j hj
  rw [h] at this; cases this
theorem wL_congr {f g : Int → Int × Bool} (h : ∀ x, (f x).2 = (g x).2 ∧ ((f x).2 = true → (f x).1 = (g x).1)) (l : List Int) : wL f l = wL g l := by
  unfold wL
  have e : (l.all fun x => (f x).2) = l.all fun x => (g x).2 := by congr 1; funext x; exact (h x).1
  by_cases hf : (l.all fun x => (f x).2) = true
  · rw [if_pos hf, if_pos (e ▸ hf)]
    congr 1
    refine List.map_congr_left fun x hx => (h x).2 ?_
    exact List.all_eq_true.1 hf x hx
  · rw [if_neg hf, if_neg (fun k => hf (e ▸ k))]
theorem take_map {α : Type} {g : Int → α} {l : List Int} {j : Nat} (h : j < l.length) : (l.take j).map g ++ [g (l.getD j 0)] = (l.take (j + 1)).map g := by
  rw [List.take_add_one, List.getElem?_eq_getElem h, List.map_append]
  congr 1
  simp [List.getD, h]
theorem wL_len (f : Int → Int × Bool) (l : List Int) : (wL f l).1.length ≤ l.length := by
  unfold wL; split <;> simp
noncomputable def swR (w : List Int) (E : List (List Int)) (v : Int) : List Int × Int := if chkC w E [v] = 0 then wL (fun u => setS w E (bhL w E v u)) (near E v) else ([], chkC w E [v])
theorem one_in {w : List Int} {v : Int} (h : ([v].all (fun v => decide (0 ≤ v ∧ v < (w.length : Int)))) = true) : 0 ≤ v ∧ v < w.length := by simpa using h
theorem specSW_c (w : List Int) (E : List (List Int)) (v : Int) (hw : w.length ≤ 2000000) (hE : E.length ≤ 2000000) : CallA Try.prog 34 [aGr w E, aI v] [rL (swR w E v).1, rI (swR w E v).2] [] := by
  have hC := l13Code_c w E [v] hw hE (by simp)
  unfold swR
  by_cases h : chkC w E [v] = 0
  · rw [if_pos h]
    obtain ⟨hg, hall, hcn⟩ := chk_zero h
    have hv := one_in hall
    have hlen := hg.1
    have hfew := hg.few
    have hN := near_c w E v (by omega) (fun j hj => (hg.2.2.1 j hj).1)
    have hnl := near_le hg.2.2.1 v
    obtain ⟨f, hf⟩ : ∃ f : Int → Int × Bool, f = fun u => setS w E (bhL w E v u) := ⟨_, rfl⟩
    have hW : ∀ u, CallA Try.prog 85 [aGr w E, aI v, aI u] [rI (f u).1, rB (f u).2] [] := fun u => by
      rw [hf]; exact l13Weight_c w E v u hg hcn hv
    rw [← hf]
    rw [h] at hC
    clear hf hall
    generalize near E v = R at *
    refine callA_of _ Try.func34 rfl Try.ntmps34 (by first | exact ⟨rfl, rfl⟩ | (simp only [List.all_cons, List.all_nil, V.solid, D.solid, D.solids, solids_ints, solids_bools, solids_LL, Bool.and_self, Bool.and_true, and_self]; done) | simp [V.solid, D.solid, D.solids, solids_lits, solids_ints, solids_bools, solids_LL]) ?_
    repeat' (first | (guard_target =~ WpA _ _ _ _ _ _; first | refine WpA.seq ?_ | refine WpA.drawU ?_ | refine WpA.regionU ?_ | refine WpA.block ?_ | refine WpA.ret ?_ | refine WpA.skip ?_ | refine WpA.exit ?_ | refine WpA.cond_true rfl ?_ | refine WpA.cond_false rfl ?_ | refine WpA.cond_ntrue rfl ?_ | refine WpA.cond_dec rfl (fun _ => ?_) (fun _ => ?_) | refine WpA.cond_not rfl (fun _ => ?_) (fun _ => ?_) | refine WpA.cond rfl (fun _ => ?_) (fun _ => ?_)) | (guard_target =~ RunU _ _ _ _ [] _ _ _ _; first | refine RunU.nilL ?_ | refine RunU.nilD (by kernel_rfl) ?_) | (guard_target =~ RunU _ _ _ _ (Oper.mk _ (Op.call ⟨Callee.value _, _, _⟩) _ _ _ none :: _) _ _ _ _; first | refine RunU.cons (step_call (hC) (.sh (.sh .nil)) (.shAgg rfl aggs_any (.sh shows_any .nil)) rfl) ?_ | refine RunU.cons (step_call (hN) (.sh (.sh .nil)) (.shAgg rfl aggs_any (.sh shows_any .nil)) rfl) ?_) | (guard_target =~ RunU _ _ _ _ (Oper.mk _ _ _ _ _ none :: _) _ _ _ _; refine RunU.cons step_any ?_) | refine Then.next ?_ | refine InBlock.next ?_ | refine Done.ret (.one (by first | exact .c rfl | exact .own rfl | exact .als rfl rfl | exact .ptr rfl rfl | exact .part rfl rfl rfl) (.one (by first | exact .c rfl | exact .own rfl | exact .als rfl rfl | exact .ptr rfl rfl | exact .part rfl rfl rfl) .nil)) (.sh (.sh .nil)) ?_ rfl)
    all_goals try (exfalso; simp_all; done)
    refine WpA.loop_ids2 (fun j i7 i8 => [(1, vGI v), (2, .own 2 (.pt true [.sl false 1 (ints w), .sl false 1 (LLs E)])), (7, .own i7 (.sl true 1 (ints R))), (8, .own i8 (.sl true 1 (ints ((R.take j).map fun x => (f x).1)))), (9, vGI j)]) (fun j => j ≤ R.length ∧ ∀ i, i < j → (f (R.getD i 0)).2 = true) (fun j => R.length - j) 0 _ _ ⟨by omega, fun i hi => by omega⟩ ⟨rfl, rfl, rfl, by exact own_ints (l := []) rfl, rfl, trivial⟩ ?_
    rintro j i7 i8 s nx ⟨hj, hok⟩
    by_cases hlt : j < R.length
    · have hWj := hW (R.getD (j * 1) 0)
      have htm := take_map (g := fun x => (f x).1) hlt
      have ej : R.getD (j * 1) 0 = R.getD j 0 := by rw [Nat.mul_one]
      have hml : ((R.take j).map fun x => (f x).1).length = j := by simp; omega
      rw [← ej] at htm
      clear hW hC hN
      cases hb : (f (R.getD (j * 1) 0)).2 with
      | true =>
        rw [hb] at hWj
        repeat' (first | (guard_target =~ WpA _ _ _ _ _ _; first | refine WpA.seq ?_ | refine WpA.drawU ?_ | refine WpA.regionU ?_ | refine WpA.block ?_ | refine WpA.ret ?_ | refine WpA.skip ?_ | refine WpA.exit ?_ | refine WpA.cond_true rfl ?_ | refine WpA.cond_false rfl ?_ | refine WpA.cond_ntrue rfl ?_ | refine WpA.cond_dec rfl (fun _ => ?_) (fun _ => ?_) | refine WpA.cond_not rfl (fun _ => ?_) (fun _ => ?_) | refine WpA.cond rfl (fun _ => ?_) (fun _ => ?_)) | (guard_target =~ RunU _ _ _ _ [] _ _ _ _; first | refine RunU.nilL ?_ | refine RunU.nilD (by kernel_rfl) ?_) | (guard_target =~ RunU _ _ _ _ (Oper.mk _ (Op.call ⟨Callee.value _, _, _⟩) _ _ _ none :: _) _ _ _ _; first | refine RunU.cons (step_call (hWj) (.sh (.sh (.sh .nil))) (.shAgg rfl aggs_any (.sh shows_any (.sh shows_any .nil))) rfl) ?_) | (guard_target =~ RunU _ _ _ _ (Oper.mk _ _ _ _ _ none :: _) _ _ _ _; refine RunU.cons step_any ?_) | refine Then.next ?_ | refine InBlock.next ?_ | refine Done.ret (.one (by first | exact .c rfl | exact .own rfl | exact .als rfl rfl | exact .ptr rfl rfl | exact .part rfl rfl rfl) (.one (by first | exact .c rfl | exact .own rfl | exact .als rfl rfl | exact .ptr rfl rfl | exact .part rfl rfl rfl) .nil)) (.sh (.sh .nil)) ?_ rfl)
        all_goals try (exfalso; simp_all; done)
        all_goals try (exfalso; omega)
        refine ⟨j + 1, ⟨by omega, fun i hi => ?_⟩, ⟨_, _, rfl, rfl, rfl, by exact own_ints htm, int_eq (by omega), trivial⟩, by omega⟩
        by_cases e : i = j
        · rw [e, ← ej]; exact hb
        · exact hok i (by omega)
      | false =>
        rw [hb] at hWj
        rw [wL_bad hlt (by rw [← ej]; exact hb)]
        clear hok
        repeat' (first | (guard_target =~ WpA _ _ _ _ _ _; first | refine WpA.seq ?_ | refine WpA.drawU ?_ | refine WpA.regionU ?_ | refine WpA.block ?_ | refine WpA.ret ?_ | refine WpA.skip ?_ | refine WpA.exit ?_ | refine WpA.cond_true rfl ?_ | refine WpA.cond_false rfl ?_ | refine WpA.cond_ntrue rfl ?_ | refine WpA.cond_dec rfl (fun _ => ?_) (fun _ => ?_) | refine WpA.cond_not rfl (fun _ => ?_) (fun _ => ?_) | refine WpA.cond rfl (fun _ => ?_) (fun _ => ?_)) | (guard_target =~ RunU _ _ _ _ [] _ _ _ _; first | refine RunU.nilL ?_ | refine RunU.nilD (by kernel_rfl) ?_) | (guard_target =~ RunU _ _ _ _ (Oper.mk _ (Op.call ⟨Callee.value _, _, _⟩) _ _ _ none :: _) _ _ _ _; first | refine RunU.cons (step_call (hWj) (.sh (.sh (.sh .nil))) (.shAgg rfl aggs_any (.sh shows_any (.sh shows_any .nil))) rfl) ?_) | (guard_target =~ RunU _ _ _ _ (Oper.mk _ _ _ _ _ none :: _) _ _ _ _; refine RunU.cons step_any ?_) | refine Then.next ?_ | refine InBlock.next ?_ | refine Done.ret (.one (by first | exact .c rfl | exact .own rfl | exact .als rfl rfl | exact .ptr rfl rfl | exact .part rfl rfl rfl) (.one (by first | exact .c rfl | exact .own rfl | exact .als rfl rfl | exact .ptr rfl rfl | exact .part rfl rfl rfl) .nil)) (.sh (.sh .nil)) ?_ rfl)
        all_goals first | rfl | (exfalso; simp_all; done) | (exfalso; omega)
    · have ej : j = R.length := by omega
      subst ej
      rw [wL_ok hok]
      have e : R.take R.length = R := List.take_length
      rw [e]
      clear hok hW hC hN
      repeat' (first | (guard_target =~ WpA _ _ _ _ _ _; first | refine WpA.seq ?_ | refine WpA.drawU ?_ | refine WpA.regionU ?_ | refine WpA.block ?_ | refine WpA.ret ?_ | refine WpA.skip ?_ | refine WpA.exit ?_ | refine WpA.cond_true rfl ?_ | refine WpA.cond_false rfl ?_ | refine WpA.cond_ntrue rfl ?_ | refine WpA.cond_dec rfl (fun _ => ?_) (fun _ => ?_) | refine WpA.cond_not rfl (fun _ => ?_) (fun _ => ?_) | refine WpA.cond rfl (fun _ => ?_) (fun _ => ?_)) | (guard_target =~ RunU _ _ _ _ [] _ _ _ _; first | refine RunU.nilL ?_ | refine RunU.nilD (by kernel_rfl) ?_) | (guard_target =~ RunU _ _ _ _ (Oper.mk _ _ _ _ _ none :: _) _ _ _ _; refine RunU.cons step_any ?_) | refine Then.next ?_ | refine InBlock.next ?_ | refine Done.ret (.one (by first | exact .c rfl | exact .own rfl | exact .als rfl rfl | exact .ptr rfl rfl | exact .part rfl rfl rfl) (.one (by first | exact .c rfl | exact .own rfl | exact .als rfl rfl | exact .ptr rfl rfl | exact .part rfl rfl rfl) .nil)) (.sh (.sh .nil)) ?_ rfl)
      all_goals first | rfl | (exfalso; simp_all; done) | (exfalso; omega)
  · rw [if_neg h]
    generalize chkC w E [v] = c at *
    refine callA_of _ Try.func34 rfl Try.ntmps34 (by first | exact ⟨rfl, rfl⟩ | (simp only [List.all_cons, List.all_nil, V.solid, D.solid, D.solids, solids_ints, solids_bools, solids_LL, Bool.and_self, Bool.and_true, and_self]; done) | simp [V.solid, D.solid, D.solids, solids_lits, solids_ints, solids_bools, solids_LL]) ?_
    repeat' (first | (guard_target =~ WpA _ _ _ _ _ _; first | refine WpA.seq ?_ | refine WpA.drawU ?_ | refine WpA.regionU ?_ | refine WpA.block ?_ | refine WpA.ret ?_ | refine WpA.skip ?_ | refine WpA.exit ?_ | refine WpA.cond_true rfl ?_ | refine WpA.cond_false rfl ?_ | refine WpA.cond_ntrue rfl ?_ | refine WpA.cond_dec rfl (fun _ => ?_) (fun _ => ?_) | refine WpA.cond_not rfl (fun _ => ?_) (fun _ => ?_) | refine WpA.cond rfl (fun _ => ?_) (fun _ => ?_)) | (guard_target =~ RunU _ _ _ _ [] _ _ _ _; first | refine RunU.nilL ?_ | refine RunU.nilD (by kernel_rfl) ?_) | (guard_target =~ RunU _ _ _ _ (Oper.mk _ (Op.call ⟨Callee.value _, _, _⟩) _ _ _ none :: _) _ _ _ _; first | refine RunU.cons (step_call (hC) (.sh (.sh .nil)) (.shAgg rfl aggs_any (.sh shows_any .nil)) rfl) ?_) | (guard_target =~ RunU _ _ _ _ (Oper.mk _ _ _ _ _ none :: _) _ _ _ _; refine RunU.cons step_any ?_) | refine Then.next ?_ | refine InBlock.next ?_ | refine Done.ret (.one (by first | exact .c rfl | exact .own rfl | exact .als rfl rfl | exact .ptr rfl rfl | exact .part rfl rfl rfl) (.one (by first | exact .c rfl | exact .own rfl | exact .als rfl rfl | exact .ptr rfl rfl | exact .part rfl rfl rfl) .nil)) (.sh (.sh .nil)) ?_ rfl)
    all_goals first | rfl | (exfalso; simp_all; done) | (exfalso; omega)
theorem implSW_c (w : List Int) (E : List (List Int)) (v : Int) (hw : w.length ≤ 2000000) (hE : E.length ≤ 2000000) : CallA Try.prog 36 [aGr w E, aI v] [rL (swR w E v).1, rI (swR w E v).2] [] := by
  unfold swR
  by_cases h : chkC w E [v] = 0
  · have hC := checkSplice_ok w E [v] (by simp) h
    rw [if_pos h]
    obtain ⟨hg, hall, hcn⟩ := chk_zero h
    have hv := one_in hall
    have hlen := hg.1
    have hfew := hg.few
    have hnl := near_le hg.2.2.1 v
    have hNl := nbL_len E w.length
    have hNv : (nbL E w.length).getD (v.toNat * 1) [] = near E v := by
      rw [Nat.mul_one, nbL_at E (by omega)]; congr 1; omega
    have hNr : ((nbL E w.length).getD (v.toNat * 1) []).length = (near E v).length := by rw [hNv]
    rw [wL_congr (g := fun u => setI w E (bhL w E v u)) (fun x => by
      obtain ⟨s1, s2⟩ := set_eq hg (bhL w E v x)
      exact ⟨s1.symm, fun h => (s2 (by rw [s1]; exact h)).symm⟩)]
    obtain ⟨f, hf⟩ : ∃ f : Int → Int × Bool, f = fun u => setI w E (bhL w E v u) := ⟨_, rfl⟩
    have hW : ∀ u, u ∈ near E v → CallA Try.prog 88 [aSpl w E, aI v, aI u] [rI (f u).1, rB (f u).2] [] := fun u hu => by
      rw [hf]; exact weight_c w E v u hg hcn hv hu
    rw [← hf]
    clear hf hall
    generalize near E v = R at *
    refine callA_of _ Try.func36 rfl Try.ntmps36 (by first | exact ⟨rfl, rfl⟩ | (simp only [List.all_cons, List.all_nil, V.solid, D.solid, D.solids, solids_ints, solids_bools, solids_LL, Bool.and_self, Bool.and_true, and_self]; done) | simp [V.solid, D.solid, D.solids, solids_lits, solids_ints, solids_bools, solids_LL]) ?_
    repeat' (first | (guard_target =~ WpA _ _ _ _ _ _; first | refine WpA.seq ?_ | refine WpA.drawU ?_ | refine WpA.regionU ?_ | refine WpA.block ?_ | refine WpA.ret ?_ | refine WpA.skip ?_ | refine WpA.exit ?_ | refine WpA.cond_true rfl ?_ | refine WpA.cond_false rfl ?_ | refine WpA.cond_ntrue rfl ?_ | refine WpA.cond_dec rfl (fun _ => ?_) (fun _ => ?_) | refine WpA.cond_not rfl (fun _ => ?_) (fun _ => ?_) | refine WpA.cond rfl (fun _ => ?_) (fun _ => ?_)) | (guard_target =~ RunU _ _ _ _ [] _ _ _ _; first | refine RunU.nilL ?_ | refine RunU.nilD (by kernel_rfl) ?_) | (guard_target =~ RunU _ _ _ _ (Oper.mk _ (Op.call ⟨Callee.value _, _, _⟩) _ _ _ none :: _) _ _ _ _; first | refine RunU.cons (step_callS (hC) (.sh (.mv give_any .nil)) (.sh (.agg rfl (by first | exact .nil | exact .cons .nil | exact .cons (.cons .nil) | exact .cons (.cons (.cons .nil)) | exact .cons (.cons (.cons (.cons .nil))) | exact .cons (.cons (.cons (.cons (.cons .nil)))))) (.mv .nil)) rfl) ?_) | (guard_target =~ RunU _ _ _ _ (Oper.mk _ _ _ _ _ none :: _) _ _ _ _; refine RunU.cons step_any ?_) | refine Then.next ?_ | refine InBlock.next ?_ | refine Done.ret (.one (by first | exact .c rfl | exact .own rfl | exact .als rfl rfl | exact .ptr rfl rfl | exact .part rfl rfl rfl) (.one (by first | exact .c rfl | exact .own rfl | exact .als rfl rfl | exact .ptr rfl rfl | exact .part rfl rfl rfl) .nil)) (.sh (.sh .nil)) ?_ rfl)
    all_goals try (exfalso; simp_all; done)
    refine WpA.loop_ids2 (fun j i6 i8 => [(1, vGI v), (6, .own 13 (.pt true [.sl false 1 (ints w), .sl false 1 (LLs E), .sl true 1 (LL (nbL E w.length))])), (8, .own i8 (.sl true 1 (ints ((R.take j).map fun x => (f x).1)))), (28, .als 6 13 ([] ++ [2] ++ [v.toNat * 1])), (29, vGI R.length), (30, vGI j)]) (fun j => j ≤ R.length ∧ ∀ i, i < j → (f (R.getD i 0)).2 = true) (fun j => R.length - j) 0 0 _ ⟨by omega, fun i hi => by omega⟩ ⟨rfl, by exact rfl, by exact own_ints (l := []) rfl, by exact rfl, int_eq (by rw [hNr]), rfl, trivial⟩ ?_
    rintro j i6 i8 s nx ⟨hj, hok⟩
    by_cases hlt : j < R.length
    · have ej : ((nbL E w.length).getD (v.toNat * 1) []).getD (j * 1) 0 = R.getD j 0 := by rw [hNv, Nat.mul_one]
      have hWj := hW (((nbL E w.length).getD (v.toNat * 1) []).getD (j * 1) 0) (by rw [ej]; exact getD_mem hlt)
      have htm := take_map (g := fun x => (f x).1) hlt
      have hml : ((R.take j).map fun x => (f x).1).length = j := by simp; omega
      rw [← ej] at htm
      clear hW hC
      cases hb : (f (((nbL E w.length).getD (v.toNat * 1) []).getD (j * 1) 0)).2 with
      | true =>
        rw [hb] at hWj
        repeat' (first | (guard_target =~ WpA _ _ _ _ _ _; first | refine WpA.seq ?_ | refine WpA.drawU ?_ | refine WpA.regionU ?_ | refine WpA.block ?_ | refine WpA.ret ?_ | refine WpA.skip ?_ | refine WpA.exit ?_ | refine WpA.cond_true rfl ?_ | refine WpA.cond_false rfl ?_ | refine WpA.cond_ntrue rfl ?_ | refine WpA.cond_dec rfl (fun _ => ?_) (fun _ => ?_) | refine WpA.cond_not rfl (fun _ => ?_) (fun _ => ?_) | refine WpA.cond rfl (fun _ => ?_) (fun _ => ?_)) | (guard_target =~ RunU _ _ _ _ [] _ _ _ _; first | refine RunU.nilL ?_ | refine RunU.nilD (by kernel_rfl) ?_) | (guard_target =~ RunU _ _ _ _ (Oper.mk _ (Op.call ⟨Callee.value _, _, _⟩) _ _ _ none :: _) _ _ _ _; first | refine RunU.cons (step_call (hWj) (.sh (.sh (.sh .nil))) (.shAgg rfl aggs_any (.sh shows_any (.sh shows_any .nil))) rfl) ?_) | (guard_target =~ RunU _ _ _ _ (Oper.mk _ _ _ _ _ none :: _) _ _ _ _; refine RunU.cons step_any ?_) | refine Then.next ?_ | refine InBlock.next ?_ | refine Done.ret (.one (by first | exact .c rfl | exact .own rfl | exact .als rfl rfl | exact .ptr rfl rfl | exact .part rfl rfl rfl) (.one (by first | exact .c rfl | exact .own rfl | exact .als rfl rfl | exact .ptr rfl rfl | exact .part rfl rfl rfl) .nil)) (.sh (.sh .nil)) ?_ rfl)
        all_goals try (exfalso; simp_all; done)
        all_goals try (exfalso; omega)
        refine ⟨j + 1, ⟨by omega, fun i hi => ?_⟩, ⟨0, _, rfl, rfl, by exact own_ints htm, rfl, rfl, int_eq (by omega), trivial⟩, by omega⟩
        by_cases e : i = j
        · rw [e, ← ej]; exact hb
        · exact hok i (by omega)
      | false =>
        rw [hb] at hWj
        rw [wL_bad hlt (by rw [← ej]; exact hb)]
        clear hok
        repeat' (first | (guard_target =~ WpA _ _ _ _ _ _; first | refine WpA.seq ?_ | refine WpA.drawU ?_ | refine WpA.regionU ?_ | refine WpA.block ?_ | refine WpA.ret ?_ | refine WpA.skip ?_ | refine WpA.exit ?_ | refine WpA.cond_true rfl ?_ | refine WpA.cond_false rfl ?_ | refine WpA.cond_ntrue rfl ?_ | refine WpA.cond_dec rfl (fun _ => ?_) (fun _ => ?_) | refine WpA.cond_not rfl (fun _ => ?_) (fun _ => ?_) | refine WpA.cond rfl (fun _ => ?_) (fun _ => ?_)) | (guard_target =~ RunU _ _ _ _ [] _ _ _ _; first | refine RunU.nilL ?_ | refine RunU.nilD (by kernel_rfl) ?_) | (guard_target =~ RunU _ _ _ _ (Oper.mk _ (Op.call ⟨Callee.value _, _, _⟩) _ _ _ none :: _) _ _ _ _; first | refine RunU.cons (step_call (hWj) (.sh (.sh (.sh .nil))) (.shAgg rfl aggs_any (.sh shows_any (.sh shows_any .nil))) rfl) ?_) | (guard_target =~ RunU _ _ _ _ (Oper.mk _ _ _ _ _ none :: _) _ _ _ _; refine RunU.cons step_any ?_) | refine Then.next ?_ | refine InBlock.next ?_ | refine Done.ret (.one (by first | exact .c rfl | exact .own rfl | exact .als rfl rfl | exact .ptr rfl rfl | exact .part rfl rfl rfl) (.one (by first | exact .c rfl | exact .own rfl | exact .als rfl rfl | exact .ptr rfl rfl | exact .part rfl rfl rfl) .nil)) (.sh (.sh .nil)) ?_ rfl)
        all_goals first | rfl | (exfalso; simp_all; done) | (exfalso; omega)
    · have ej : j = R.length := by omega
      subst ej
      rw [wL_ok hok]
      have e : R.take R.length = R := List.take_length
      rw [e]
      clear hok hW hC
      repeat' (first | (guard_target =~ WpA _ _ _ _ _ _; first | refine WpA.seq ?_ | refine WpA.drawU ?_ | refine WpA.regionU ?_ | refine WpA.block ?_ | refine WpA.ret ?_ | refine WpA.skip ?_ | refine WpA.exit ?_ | refine WpA.cond_true rfl ?_ | refine WpA.cond_false rfl ?_ | refine WpA.cond_ntrue rfl ?_ | refine WpA.cond_dec rfl (fun _ => ?_) (fun _ => ?_) | refine WpA.cond_not rfl (fun _ => ?_) (fun _ => ?_) | refine WpA.cond rfl (fun _ => ?_) (fun _ => ?_)) | (guard_target =~ RunU _ _ _ _ [] _ _ _ _; first | refine RunU.nilL ?_ | refine RunU.nilD (by kernel_rfl) ?_) | (guard_target =~ RunU _ _ _ _ (Oper.mk _ _ _ _ _ none :: _) _ _ _ _; refine RunU.cons step_any ?_) | refine Then.next ?_ | refine InBlock.next ?_ | refine Done.ret (.one (by first | exact .c rfl | exact .own rfl | exact .als rfl rfl | exact .ptr rfl rfl | exact .part rfl rfl rfl) (.one (by first | exact .c rfl | exact .own rfl | exact .als rfl rfl | exact .ptr rfl rfl | exact .part rfl rfl rfl) .nil)) (.sh (.sh .nil)) ?_ rfl)
      all_goals first | rfl | (exfalso; simp_all; done) | (exfalso; omega)
  · have hC := checkSplice_bad w E [v] hw hE (by simp) h
    rw [if_neg h]
    generalize chkC w E [v] = c at *
    refine callA_of _ Try.func36 rfl Try.ntmps36 (by first | exact ⟨rfl, rfl⟩ | (simp only [List.all_cons, List.all_nil, V.solid, D.solid, D.solids, solids_ints, solids_bools, solids_LL, Bool.and_self, Bool.and_true, and_self]; done) | simp [V.solid, D.solid, D.solids, solids_lits, solids_ints, solids_bools, solids_LL]) ?_
    repeat' (first | (guard_target =~ WpA _ _ _ _ _ _; first | refine WpA.seq ?_ | refine WpA.drawU ?_ | refine WpA.regionU ?_ | refine WpA.block ?_ | refine WpA.ret ?_ | refine WpA.skip ?_ | refine WpA.exit ?_ | refine WpA.cond_true rfl ?_ | refine WpA.cond_false rfl ?_ | refine WpA.cond_ntrue rfl ?_ | refine WpA.cond_dec rfl (fun _ => ?_) (fun _ => ?_) | refine WpA.cond_not rfl (fun _ => ?_) (fun _ => ?_) | refine WpA.cond rfl (fun _ => ?_) (fun _ => ?_)) | (guard_target =~ RunU _ _ _ _ [] _ _ _ _; first | refine RunU.nilL ?_ | refine RunU.nilD (by kernel_rfl) ?_) | (guard_target =~ RunU _ _ _ _ (Oper.mk _ (Op.call ⟨Callee.value _, _, _⟩) _ _ _ none :: _) _ _ _ _; first | refine RunU.cons (step_callS (hC) (.sh (.mv give_any .nil)) (.sh (.agg rfl (by first | exact .nil | exact .cons .nil | exact .cons (.cons .nil) | exact .cons (.cons (.cons .nil)) | exact .cons (.cons (.cons (.cons .nil))) | exact .cons (.cons (.cons (.cons (.cons .nil)))))) (.mv .nil)) rfl) ?_) | (guard_target =~ RunU _ _ _ _ (Oper.mk _ _ _ _ _ none :: _) _ _ _ _; refine RunU.cons step_any ?_) | refine Then.next ?_ | refine InBlock.next ?_ | refine Done.ret (.one (by first | exact .c rfl | exact .own rfl | exact .als rfl rfl | exact .ptr rfl rfl | exact .part rfl rfl rfl) (.one (by first | exact .c rfl | exact .own rfl | exact .als rfl rfl | exact .ptr rfl rfl | exact .part rfl rfl rfl) .nil)) (.sh (.sh .nil)) ?_ rfl)
    all_goals first | rfl | (exfalso; simp_all; done) | (exfalso; omega)
theorem swR_len (w : List Int) (E : List (List Int)) (v : Int) : (swR w E v).1.length ≤ w.length := by
  unfold swR
  split
  · rename_i h
    obtain ⟨hg, _, _⟩ := chk_zero h
    exact Nat.le_trans (wL_len _ _) (near_le hg.2.2.1 v)
  · simp
end Go.Proofs.Ytfkhngjkpjcdfaa
