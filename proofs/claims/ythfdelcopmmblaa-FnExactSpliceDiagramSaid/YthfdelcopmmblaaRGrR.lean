/- Numbers of components by the reference. No condition. -/
import Derived.Test.YthfdelcopmmblaaRGrQ
namespace Go.Proofs.Ythfdelcopmmblaa
set_option maxHeartbeats 20000000
set_option linter.unusedVariables false
set_option linter.unusedSimpArgs false
open Go.Pv
open Go.ChangeShapes Go.WideShapes Go.ChangeAt Go.RowKit
attribute [local irreducible] RunU WpA Step CallG CallNG Done DoneN
instance fnOk74 : FnOk Try.prog 74 := ⟨_, Try.func74, rfl, by decide⟩
def labL (w : List Int) (E : List (List Int)) : List Int := labI w.length E E.length
theorem labL_nat (w : List Int) (E : List (List Int)) (i : Nat) : (labL w E).getD i 0 = labOf w E i := rfl
def cmpL (w : List Int) (E : List (List Int)) : List Int := finL w.length (labL w E)
theorem cmpL_len (w : List Int) (E : List (List Int)) : (cmpL w E).length = w.length := finL_len _ _
theorem cmpL_at {w : List Int} {E : List (List Int)} {i : Nat} (h : i < w.length) : (cmpL w E).getD i 0 = cnt (isRoot (labL w E)) (labOf w E i).toNat := finL_at h
theorem isRoot_iff (w : List Int) (E : List (List Int)) (i : Nat) : isRoot (labL w E) i = true ↔ labOf w E i = i := by
  unfold isRoot; rw [labL_nat]; simp
def cmpTo (w : List Int) (E : List (List Int)) (i : Nat) : List Int := (List.range w.length).map fun x : Nat => if labOf w E x < i then (cnt (isRoot (labL w E)) (labOf w E x).toNat : Int) else -1
theorem cmpTo_len (w : List Int) (E : List (List Int)) (i : Nat) : (cmpTo w E i).length = w.length := by simp [cmpTo]
theorem cmpTo_at {w : List Int} {E : List (List Int)} {i k : Nat} (h : k < w.length) : (cmpTo w E i).getD k 0 = if labOf w E k < i then (cnt (isRoot (labL w E)) (labOf w E k).toNat : Int) else -1 := by simp [cmpTo, List.getD, h]
theorem cmpTo_zero {w : List Int} {E : List (List Int)} (hg : IsGr w E) : List.replicate w.length (-1) = cmpTo w E 0 := by
  refine ext_I (by simp [cmpTo]) fun k hk => ?_
  rw [List.length_replicate] at hk
  have := lab_facts hg (x := (k : Int)) (by omega)
  rw [cmpTo_at hk, if_neg (by omega)]
  simp [List.getD, hk]
theorem cmpTo_all {w : List Int} {E : List (List Int)} (hg : IsGr w E) : cmpTo w E w.length = cmpL w E := by
  refine ext_I (by simp [cmpTo, cmpL_len]) fun k hk => ?_
  rw [cmpTo_len] at hk
  have := lab_facts hg (x := (k : Int)) (by omega)
  rw [cmpTo_at hk, cmpL_at hk, if_pos (by omega)]
theorem cmpTo_same {w : List Int} {E : List (List Int)} (hg : IsGr w E) {i : Nat} (h : labOf w E i ≠ i) : cmpTo w E i = cmpTo w E (i + 1) ∧ cnt (isRoot (labL w E)) i = cnt (isRoot (labL w E)) (i + 1) := by
  constructor
  · refine ext_I (by simp [cmpTo]) fun k hk => ?_
    rw [cmpTo_len] at hk
    have h1 := lab_facts hg (x := (k : Int)) (by omega)
    rw [cmpTo_at hk, cmpTo_at hk]
    by_cases e : labOf w E k = i
    · rw [e] at h1; exact absurd h1.2.2 h
    · by_cases h2 : labOf w E k < i
      · rw [if_pos h2, if_pos (by omega)]
      · rw [if_neg h2, if_neg (by omega)]
  · have : isRoot (labL w E) i = false := by
      rw [Bool.eq_false_iff, Ne, isRoot_iff]; exact h
    rw [cnt, this]; rfl
def stA (v : Int) (o : List Int) (x : Int) : List Int := o.set x.toNat v
theorem stA_len (v : Int) : ∀ (l o : List Int), (l.foldl (stA v) o).length = o.length
  | [], _ => rfl
  | x :: l, o => by rw [List.foldl_cons, stA_len v l]; simp [stA]
theorem stA_at (v : Int) : ∀ (l o : List Int) (k : Nat), (∀ x ∈ l, 0 ≤ x ∧ x < o.length) → (l.foldl (stA v) o).getD k 0 = if (k : Int) ∈ l then v else o.getD k 0
  | [], o, k, _ => by simp
  | x :: l, o, k, h => by
    have hx := h x (by simp)
    rw [List.foldl_cons, stA_at v l _ k (fun y hy => by have := h y (by simp [hy]); simpa [stA] using this)]
    by_cases h1 : (k : Int) ∈ l
    · rw [if_pos h1, if_pos (by simp [h1])]
    · rw [if_neg h1]
      unfold stA
      rw [getD_setI (by omega)]
      by_cases e : x.toNat = k
      · rw [if_pos e, if_pos (by simp; left; omega)]
      · rw [if_neg e, if_neg (by simp [h1]; omega)]
theorem labels_step {w : List Int} {E : List (List Int)} (hg : IsGr w E) {i : Nat} (hi : i < w.length) (h : labOf w E i = i) :
    (ordF w.length E i).foldl (stA (cnt (isRoot (labL w E)) i)) (cmpTo w E i) = cmpTo w E (i + 1) ∧ (cnt (isRoot (labL w E)) i : Int) + 1 = cnt (isRoot (labL w E)) (i + 1) := by
  have hO := ord_law hg (r := (i : Int)) (by omega)
  have hmem : ∀ x, x ∈ ordF w.length E i → 0 ≤ x ∧ x < w.length := fun x hx => by
    obtain ⟨u, hb⟩ := (hO.mem x).1 hx
    exact hb.range hg.2.2.1 (by omega)
  constructor
  · refine ext_I (by rw [stA_len]; simp [cmpTo]) fun k hk => ?_
    rw [stA_len, cmpTo_len] at hk
    rw [stA_at _ _ _ _ (fun x hx => by rw [cmpTo_len]; exact hmem x hx), cmpTo_at hk, cmpTo_at hk]
    have hiff : (k : Int) ∈ ordF w.length E i ↔ labOf w E k = i := by
      rw [hO.mem]
      refine ⟨fun ⟨u, hb⟩ => (bw_lab hg hb).trans h, fun e => ?_⟩
      have := bw_all hg (x := (k : Int)) (by omega)
      rwa [e] at this
    by_cases e : labOf w E k = i
    · rw [if_pos (hiff.2 e), if_pos (by omega), e, Int.toNat_natCast]
    · rw [if_neg (fun h => e (hiff.1 h))]
      by_cases h2 : labOf w E k < i
      · rw [if_pos h2, if_pos (by omega)]
      · rw [if_neg h2, if_neg (by omega)]
  · have : isRoot (labL w E) i = true := (isRoot_iff w E i).2 h
    rw [cnt, this]; rfl
theorem specLabels_c (w : List Int) (E : List (List Int)) (hg : IsGr w E) : CallA Try.prog 74 [aGr w E] [rL (cmpL w E)] [] := by
  have hlen := hg.1
  refine callA_of _ Try.func74 rfl Try.ntmps74 (by first | exact ⟨rfl, rfl⟩ | (simp only [List.all_cons, List.all_nil, V.solid, D.solid, D.solids, solids_ints, solids_bools, solids_LL, Bool.and_self, Bool.and_true, and_self]; done) | simp [V.solid, D.solid, D.solids, solids_lits, solids_ints, solids_bools, solids_LL]) ?_
  repeat' (first | (guard_target =~ WpA _ _ _ _ _ _; first | refine WpA.seq ?_ | refine WpA.drawU ?_ | refine WpA.regionU ?_ | refine WpA.block ?_ | refine WpA.ret ?_ | refine WpA.skip ?_ | refine WpA.exit ?_ | refine WpA.cond_true rfl ?_ | refine WpA.cond_false rfl ?_ | refine WpA.cond_ntrue rfl ?_ | refine WpA.cond_dec rfl (fun _ => ?_) (fun _ => ?_) | refine WpA.cond_not rfl (fun _ => ?_) (fun _ => ?_) | refine WpA.cond rfl (fun _ => ?_) (fun _ => ?_)) | (guard_target =~ RunU _ _ _ _ [] _ _ _ _; first | refine RunU.nilL ?_ | refine RunU.nilD (by kernel_rfl) ?_) | (guard_target =~ RunU _ _ _ _ (Oper.mk _ _ _ _ _ none :: _) _ _ _ _; refine RunU.cons step_any ?_) | refine Then.next ?_ | refine InBlock.next ?_ | refine Done.ret (.one (by first | exact .c rfl | exact .own rfl | exact .als rfl rfl | exact .ptr rfl rfl | exact .part rfl rfl rfl) .nil) (.sh .nil) ?_ rfl)
  refine WpA.loop_slots2 (fun j id => [(1, .own 1 (.pt true [.sl false 1 (ints w), .sl false 1 (LLs E)])), (3, .own id (.sl true 1 (ints (List.replicate j (-1))))), (4, vGI 0), (5, vGI j)]) (fun j => j ≤ w.length) (fun j => w.length - j) 0 _ (by omega) ⟨rfl, by exact own_ints (l := []) rfl, rfl, rfl, trivial⟩ ?_
  intro j id s nx hj
  by_cases hlt : j < w.length
  · have e1 : List.replicate j (-1 : Int) ++ [-1] = List.replicate (j + 1) (-1) := List.replicate_succ'.symm
    repeat' (first | (guard_target =~ WpA _ _ _ _ _ _; first | refine WpA.seq ?_ | refine WpA.drawU ?_ | refine WpA.regionU ?_ | refine WpA.block ?_ | refine WpA.ret ?_ | refine WpA.skip ?_ | refine WpA.exit ?_ | refine WpA.cond_true rfl ?_ | refine WpA.cond_false rfl ?_ | refine WpA.cond_ntrue rfl ?_ | refine WpA.cond_dec rfl (fun _ => ?_) (fun _ => ?_) | refine WpA.cond_not rfl (fun _ => ?_) (fun _ => ?_) | refine WpA.cond rfl (fun _ => ?_) (fun _ => ?_)) | (guard_target =~ RunU _ _ _ _ [] _ _ _ _; first | refine RunU.nilL ?_ | refine RunU.nilD (by kernel_rfl) ?_) | (guard_target =~ RunU _ _ _ _ (Oper.mk _ _ _ _ _ none :: _) _ _ _ _; refine RunU.cons step_any ?_) | refine Then.next ?_ | refine InBlock.next ?_ | refine Done.ret (.one (by first | exact .c rfl | exact .own rfl | exact .als rfl rfl | exact .ptr rfl rfl | exact .part rfl rfl rfl) .nil) (.sh .nil) ?_ rfl)
    all_goals try (exfalso; omega)
    exact ⟨j + 1, by omega, ⟨_, rfl, by exact own_ints e1, rfl, int_eq (by omega), trivial⟩, by omega⟩
  · have ej : j = w.length := by omega
    subst ej
    rw [cmpTo_zero hg]
    have hl0 := cmpTo_len w E 0
    repeat' (first | (guard_target =~ WpA _ _ _ _ _ _; first | refine WpA.seq ?_ | refine WpA.drawU ?_ | refine WpA.regionU ?_ | refine WpA.block ?_ | refine WpA.ret ?_ | refine WpA.skip ?_ | refine WpA.exit ?_ | refine WpA.cond_true rfl ?_ | refine WpA.cond_false rfl ?_ | refine WpA.cond_ntrue rfl ?_ | refine WpA.cond_dec rfl (fun _ => ?_) (fun _ => ?_) | refine WpA.cond_not rfl (fun _ => ?_) (fun _ => ?_) | refine WpA.cond rfl (fun _ => ?_) (fun _ => ?_)) | (guard_target =~ RunU _ _ _ _ [] _ _ _ _; first | refine RunU.nilL ?_ | refine RunU.nilD (by kernel_rfl) ?_) | (guard_target =~ RunU _ _ _ _ (Oper.mk _ _ _ _ _ none :: _) _ _ _ _; refine RunU.cons step_any ?_) | refine Then.next ?_ | refine InBlock.next ?_ | refine Done.ret (.one (by first | exact .c rfl | exact .own rfl | exact .als rfl rfl | exact .ptr rfl rfl | exact .part rfl rfl rfl) .nil) (.sh .nil) ?_ rfl)
    all_goals try (exfalso; omega)
    refine WpA.loop_slots2 (fun j id => [(1, .own 1 (.pt true [.sl false 1 (ints w), .sl false 1 (LLs E)])), (3, .own id (.sl true 1 (ints (cmpTo w E j)))), (4, vGI (cnt (isRoot (labL w E)) j)), (6, vGI j)]) (fun j => j ≤ w.length) (fun j => w.length - j) 0 _ (by omega) ⟨rfl, by exact rfl, rfl, rfl, trivial⟩ ?_
    intro j id s nx hj
    have hlj := cmpTo_len w E j
    have hcl := cnt_le (isRoot (labL w E)) j
    by_cases hlt : j < w.length
    · have hat := cmpTo_at (w := w) (E := E) (i := j) hlt
      rw [← Nat.mul_one j] at hat
      have hlf := lab_facts hg (x := (j : Int)) (by omega)
      by_cases hr : labOf w E j = j
      · obtain ⟨e1, e2⟩ := labels_step hg hlt hr
        have hat2 : (cmpTo w E j).getD (j * 1) 0 = -1 := by rw [Nat.mul_one, cmpTo_at hlt, if_neg (by omega)]
        have hO := ord_law hg (r := (j : Int)) (by omega)
        have hC := order_c w E j hg (by omega)
        have hol := hO.len
        have hin : ∀ k, k < (ordF w.length E j).length → 0 ≤ (ordF w.length E j).getD (k * 1) 0 ∧ (ordF w.length E j).getD (k * 1) 0 < w.length := fun k hk => by
          rw [Nat.mul_one]
          obtain ⟨u, hb⟩ := (hO.mem _).1 (getD_mem hk)
          exact hb.range hg.2.2.1 (by omega)
        generalize hcN : cnt (isRoot (labL w E)) j = c at *
        generalize hM : cmpTo w E j = M at *
        generalize ordF w.length E j = o at *
        generalize parF w.length E j = p at *
        clear hat hO
        repeat' (first | (guard_target =~ WpA _ _ _ _ _ _; first | refine WpA.seq ?_ | refine WpA.drawU ?_ | refine WpA.regionU ?_ | refine WpA.block ?_ | refine WpA.ret ?_ | refine WpA.skip ?_ | refine WpA.exit ?_ | refine WpA.cond_true rfl ?_ | refine WpA.cond_false rfl ?_ | refine WpA.cond_ntrue rfl ?_ | refine WpA.cond_dec rfl (fun _ => ?_) (fun _ => ?_) | refine WpA.cond_not rfl (fun _ => ?_) (fun _ => ?_) | refine WpA.cond rfl (fun _ => ?_) (fun _ => ?_)) | (guard_target =~ RunU _ _ _ _ [] _ _ _ _; first | refine RunU.nilL ?_ | refine RunU.nilD (by kernel_rfl) ?_) | (guard_target =~ RunU _ _ _ _ (Oper.mk _ (Op.call ⟨Callee.value _, _, _⟩) _ _ _ none :: _) _ _ _ _; first | refine RunU.cons (step_call (hC) (.sh (.sh .nil)) (.shAgg rfl aggs_any (.sh shows_any .nil)) rfl) ?_) | (guard_target =~ RunU _ _ _ _ (Oper.mk _ _ _ _ _ none :: _) _ _ _ _; refine RunU.cons step_any ?_) | refine Then.next ?_ | refine InBlock.next ?_ | refine Done.ret (.one (by first | exact .c rfl | exact .own rfl | exact .als rfl rfl | exact .ptr rfl rfl | exact .part rfl rfl rfl) .nil) (.sh .nil) ?_ rfl)
        all_goals try (exfalso; omega)
        refine WpA.loop_ids2 (fun k i3 i7 => [(1, .own 1 (.pt true [.sl false 1 (ints w), .sl false 1 (LLs E)])), (3, .own i3 (.sl true 1 (ints ((o.take k).foldl (stA c) M)))), (4, vGI c), (6, vGI j), (7, .own i7 (.sl true 1 (ints o))), (9, vGI k)]) (fun k => k ≤ o.length) (fun k => o.length - k) 0 _ _ (by omega) ⟨rfl, by exact rfl, rfl, rfl, by exact rfl, rfl, trivial⟩ ?_
        intro k i3 i7 s nx hk
        have hsl := stA_len c (o.take k) M
        by_cases hlk : k < o.length
        · have hst := foldl_take (f := stA c) hlk M
          rw [show o.getD k 0 = o.getD (k * 1) 0 by rw [Nat.mul_one]] at hst
          have hko := hin k hlk
          generalize List.foldl (stA c) M (o.take k) = m at *
          rw [show stA (c : Int) m (o.getD (k * 1) 0) = m.set ((o.getD (k * 1) 0).toNat * 1) (c : Int) by unfold stA; rw [Nat.mul_one (o.getD (k * 1) 0).toNat]] at hst
          clear hC hin
          repeat' (first | (guard_target =~ WpA _ _ _ _ _ _; first | refine WpA.seq ?_ | refine WpA.drawU ?_ | refine WpA.regionU ?_ | refine WpA.block ?_ | refine WpA.ret ?_ | refine WpA.skip ?_ | refine WpA.exit ?_ | refine WpA.cond_true rfl ?_ | refine WpA.cond_false rfl ?_ | refine WpA.cond_ntrue rfl ?_ | refine WpA.cond_dec rfl (fun _ => ?_) (fun _ => ?_) | refine WpA.cond_not rfl (fun _ => ?_) (fun _ => ?_) | refine WpA.cond rfl (fun _ => ?_) (fun _ => ?_)) | (guard_target =~ RunU _ _ _ _ [] _ _ _ _; first | refine RunU.nilL ?_ | refine RunU.nilD (by kernel_rfl) ?_) | (guard_target =~ RunU _ _ _ _ (Oper.mk _ _ _ _ _ none :: _) _ _ _ _; refine RunU.cons step_any ?_) | refine Then.next ?_ | refine InBlock.next ?_ | refine Done.ret (.one (by first | exact .c rfl | exact .own rfl | exact .als rfl rfl | exact .ptr rfl rfl | exact .part rfl rfl rfl) .nil) (.sh .nil) ?_ rfl)
          all_goals try (exfalso; omega)
          refine ⟨k + 1, by omega, ?_, by omega⟩
          rw [hst]
          exact ⟨_, _, rfl, rfl, rfl, rfl, rfl, int_eq (by omega), trivial⟩
        · have ek : k = o.length := by omega
          subst ek
          rw [List.take_length, e1]
          clear hC hin
          repeat' (first | (guard_target =~ WpA _ _ _ _ _ _; first | refine WpA.seq ?_ | refine WpA.drawU ?_ | refine WpA.regionU ?_ | refine WpA.block ?_ | refine WpA.ret ?_ | refine WpA.skip ?_ | refine WpA.exit ?_ | refine WpA.cond_true rfl ?_ | refine WpA.cond_false rfl ?_ | refine WpA.cond_ntrue rfl ?_ | refine WpA.cond_dec rfl (fun _ => ?_) (fun _ => ?_) | refine WpA.cond_not rfl (fun _ => ?_) (fun _ => ?_) | refine WpA.cond rfl (fun _ => ?_) (fun _ => ?_)) | (guard_target =~ RunU _ _ _ _ [] _ _ _ _; first | refine RunU.nilL ?_ | refine RunU.nilD (by kernel_rfl) ?_) | (guard_target =~ RunU _ _ _ _ (Oper.mk _ _ _ _ _ none :: _) _ _ _ _; refine RunU.cons step_any ?_) | refine Then.next ?_ | refine InBlock.next ?_ | refine Done.ret (.one (by first | exact .c rfl | exact .own rfl | exact .als rfl rfl | exact .ptr rfl rfl | exact .part rfl rfl rfl) .nil) (.sh .nil) ?_ rfl)
          all_goals try (exfalso; omega)
          exact ⟨j + 1, by omega, ⟨_, rfl, rfl, int_eq e2, int_eq (by omega), trivial⟩, by omega⟩
      · obtain ⟨e1, e2⟩ := cmpTo_same hg hr
        have hat2 : 0 ≤ (cmpTo w E j).getD (j * 1) 0 := by rw [Nat.mul_one, cmpTo_at hlt, if_pos (by omega)]; omega
        clear hat
        repeat' (first | (guard_target =~ WpA _ _ _ _ _ _; first | refine WpA.seq ?_ | refine WpA.drawU ?_ | refine WpA.regionU ?_ | refine WpA.block ?_ | refine WpA.ret ?_ | refine WpA.skip ?_ | refine WpA.exit ?_ | refine WpA.cond_true rfl ?_ | refine WpA.cond_false rfl ?_ | refine WpA.cond_ntrue rfl ?_ | refine WpA.cond_dec rfl (fun _ => ?_) (fun _ => ?_) | refine WpA.cond_not rfl (fun _ => ?_) (fun _ => ?_) | refine WpA.cond rfl (fun _ => ?_) (fun _ => ?_)) | (guard_target =~ RunU _ _ _ _ [] _ _ _ _; first | refine RunU.nilL ?_ | refine RunU.nilD (by kernel_rfl) ?_) | (guard_target =~ RunU _ _ _ _ (Oper.mk _ _ _ _ _ none :: _) _ _ _ _; refine RunU.cons step_any ?_) | refine Then.next ?_ | refine InBlock.next ?_ | refine Done.ret (.one (by first | exact .c rfl | exact .own rfl | exact .als rfl rfl | exact .ptr rfl rfl | exact .part rfl rfl rfl) .nil) (.sh .nil) ?_ rfl)
        all_goals try (exfalso; omega)
        refine ⟨j + 1, by omega, ?_, by omega⟩
        rw [← e1, ← e2]
        exact ⟨_, rfl, rfl, rfl, int_eq (by omega), trivial⟩
    · have ej : j = w.length := by omega
      subst ej
      rw [cmpTo_all hg] at *
      repeat' (first | (guard_target =~ WpA _ _ _ _ _ _; first | refine WpA.seq ?_ | refine WpA.drawU ?_ | refine WpA.regionU ?_ | refine WpA.block ?_ | refine WpA.ret ?_ | refine WpA.skip ?_ | refine WpA.exit ?_ | refine WpA.cond_true rfl ?_ | refine WpA.cond_false rfl ?_ | refine WpA.cond_ntrue rfl ?_ | refine WpA.cond_dec rfl (fun _ => ?_) (fun _ => ?_) | refine WpA.cond_not rfl (fun _ => ?_) (fun _ => ?_) | refine WpA.cond rfl (fun _ => ?_) (fun _ => ?_)) | (guard_target =~ RunU _ _ _ _ [] _ _ _ _; first | refine RunU.nilL ?_ | refine RunU.nilD (by kernel_rfl) ?_) | (guard_target =~ RunU _ _ _ _ (Oper.mk _ _ _ _ _ none :: _) _ _ _ _; refine RunU.cons step_any ?_) | refine Then.next ?_ | refine InBlock.next ?_ | refine Done.ret (.one (by first | exact .c rfl | exact .own rfl | exact .als rfl rfl | exact .ptr rfl rfl | exact .part rfl rfl rfl) .nil) (.sh .nil) ?_ rfl)
      all_goals try (exfalso; omega)
      all_goals rfl
end Go.Proofs.Ythfdelcopmmblaa
