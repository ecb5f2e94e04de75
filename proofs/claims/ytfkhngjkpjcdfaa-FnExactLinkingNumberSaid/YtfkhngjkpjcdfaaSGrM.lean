/- Products with a limit, one step of the program's walk through a forest. No condition. -/
import Derived.Test.YtfkhngjkpjcdfaaSGrI
import Derived.Test.YtfkhngjkpjcdfaaSGrH
namespace Go.Proofs.Ytfkhngjkpjcdfaa
set_option maxHeartbeats 20000000
set_option linter.unusedVariables false
set_option linter.unusedSimpArgs false
open Go.Pv
open Go.ChangeShapes Go.WideShapes Go.ChangeAt Go.RowKit
attribute [local irreducible] RunU WpA Step CallG CallNG Done DoneN
instance fnOk110 : FnOk Try.prog 110 := ⟨_, Try.func110, rfl, by decide⟩
instance fnOk111 : FnOk Try.prog 111 := ⟨_, Try.func111, rfl, by decide⟩
instance fnOk207 : FnOk Try.prog 207 := ⟨_, Try.func207, rfl, by decide⟩
def nbL (E : List (List Int)) (n : Nat) : List (List Int) := (List.range n).map fun i : Nat => near E i
theorem nbL_len (E : List (List Int)) (n : Nat) : (nbL E n).length = n := by simp [nbL]
theorem nbL_at (E : List (List Int)) {n i : Nat} (h : i < n) : (nbL E n).getD i [] = near E i := by simp [nbL, List.getD, h]
theorem apN_perm {n : Nat} {E : List (List Int)} (hg : GoodE n E) (v : Int) : ∀ j, j ≤ E.length → (apN E v j).Perm (lowN E v j ++ uppN E v j)
  | 0, _ => List.Perm.refl _
  | j + 1, hj => by
    have ih := apN_perm hg v j (by omega)
    have g := (hg j (by omega)).2.1
    rw [apN, lowN, uppN]
    by_cases h1 : ea E j = v
    · rw [if_pos h1, if_neg (by omega), if_pos h1, ← List.append_assoc]
      exact List.Perm.append_right _ ih
    · rw [if_neg h1]
      by_cases h2 : eb E j = v
      · rw [if_pos h2, if_pos h2, if_neg h1, List.append_assoc]
        refine (List.Perm.append_right _ ih).trans ?_
        rw [List.append_assoc]
        exact List.Perm.append_left _ List.perm_append_comm
      · rw [if_neg h2, if_neg h2, if_neg h1]
        exact ih
theorem adj_srt {n : Nat} {E : List (List Int)} (hg : GoodE n E) : (adjL E n E.length).map srt = nbL E n := by
  unfold adjL nbL
  rw [List.map_map]
  refine List.map_congr_left fun i _ => ?_
  have h1 : (srt (apN E i E.length)).Perm (apN E i E.length) := List.mergeSort_perm _ _
  refine sort_unique (h1.trans (apN_perm hg i E.length (Nat.le_refl _))) (srt_sorted _) ((near_sorted hg i).imp fun h => by omega)
theorem nbrs_c (w : List Int) (E : List (List Int)) (hg : IsGr w E) : CallA Try.prog 101 [aGr w E] [rLL (nbL E w.length)] [] := by
  have h1 := hg.few
  have h2 := hg.1
  rw [← adj_srt hg.2.2.1]
  exact neighbours_c w E (by omega) (by omega) hg.2.2.1
theorem times_c (a b : Int) (ha : -1000000000000 ≤ a ∧ a ≤ 1000000000000) (hb : -1000000000000 ≤ b ∧ b ≤ 1000000000000) : CallA Try.prog 110 [aI a, aI b] [rI (tms a b).1, rB (tms a b).2] [] := by
  have hle := tms_le (a := a) (b := b)
  have hdef : tms a b = if a = 0 ∨ b = 0 then (0, true) else if 1000000000000 / (b.natAbs : Int) < (a.natAbs : Int) then (0, false) else (a * b, true) := rfl
  by_cases h0 : a = 0 ∨ b = 0
  · rw [if_pos h0] at hdef
    rw [hdef]
    refine callA_of _ Try.func110 rfl Try.ntmps110 (by first | exact ⟨rfl, rfl⟩ | (simp only [List.all_cons, List.all_nil, V.solid, D.solid, D.solids, solids_ints, solids_bools, solids_LL, Bool.and_self, Bool.and_true, and_self]; done) | simp [V.solid, D.solid, D.solids, solids_lits, solids_ints, solids_bools, solids_LL]) ?_
    repeat' (first
        | (guard_target =~ WpA _ _ _ _ _ _; first
          | refine WpA.seq ?_
          | refine WpA.drawU ?_
          | refine WpA.regionU ?_
          | refine WpA.block ?_
          | refine WpA.ret ?_
          | refine WpA.skip ?_
          | refine WpA.exit ?_
          | refine WpA.cond_true rfl ?_
          | refine WpA.cond_false rfl ?_
          | refine WpA.cond_ntrue rfl ?_
          | refine WpA.cond_dec rfl (fun _ => ?_) (fun _ => ?_)
          | refine WpA.cond_not rfl (fun _ => ?_) (fun _ => ?_)
          | refine WpA.cond rfl (fun _ => ?_) (fun _ => ?_)
          )
        | (guard_target =~ RunU _ _ _ _ [] _ _ _ _; first
          | refine RunU.nilL ?_
          | refine RunU.nilD (by kernel_rfl) ?_
          )
        | (guard_target =~ RunU _ _ _ _ (Oper.mk _ (Op.call ⟨Callee.value _, _, _⟩) _ _ _ none :: _) _ _ _ _; first
          | refine RunU.cons (step_call (abs_c a (by omega)) (.sh .nil) (.sh shows_any .nil) rfl) ?_
          | refine RunU.cons (step_call (abs_c b (by omega)) (.sh .nil) (.sh shows_any .nil) rfl) ?_
          )
        | (guard_target =~ RunU _ _ _ _ (Oper.mk _ _ _ _ _ none :: _) _ _ _ _; refine RunU.cons step_any ?_)
        | (guard_target =~ RunU _ _ _ _ (Oper.mk _ _ _ _ _ (some _) :: _) _ _ _ _; first
          | refine RunU.pass rfl rfl rfl rfl ?_
          | refine RunU.pass_undef rfl rfl rfl ?_
          | (guard_target =~ RunU _ _ _ _ (Oper.mk _ (Op.call ⟨Callee.value _, _, _⟩) _ _ _ _ :: _) _ _ _ _; first
            | refine RunU.doit rfl rfl (step_call (abs_c a (by omega)) (.sh .nil) (.sh shows_any .nil) rfl) ?_
            | refine RunU.doit rfl rfl (step_call (abs_c b (by omega)) (.sh .nil) (.sh shows_any .nil) rfl) ?_
            )
          | refine RunU.doit rfl rfl step_any ?_
          | ((fail_if_success (refine RunU.doit (rd := []) (up := []) rfl rfl ?_ ?_)); first
            | refine RunU.guard_dec rfl rfl (fun _ => ?_) (fun _ => ?_)
            | refine RunU.guard_not rfl rfl (fun _ => ?_) (fun _ => ?_)
            | refine RunU.guard rfl rfl (fun _ => ?_) (fun _ => ?_))
          )
        | refine Then.next ?_
        | refine InBlock.next ?_
        | refine Done.ret (.one (by first | exact .c rfl | exact .own rfl | exact .als rfl rfl | exact .ptr rfl rfl | exact .part rfl rfl rfl) (.one (by first | exact .c rfl | exact .own rfl | exact .als rfl rfl | exact .ptr rfl rfl | exact .part rfl rfl rfl) .nil)) (.sh (.sh .nil)) ?_ rfl
        | refine Done.normal (.one (by first | exact .c rfl | exact .own rfl | exact .als rfl rfl | exact .ptr rfl rfl | exact .part rfl rfl rfl) (.one (by first | exact .c rfl | exact .own rfl | exact .als rfl rfl | exact .ptr rfl rfl | exact .part rfl rfl rfl) .nil)) (.sh (.sh .nil)) ?_ rfl)
    all_goals first | rfl | (exfalso; omega)
  · rw [if_neg h0] at hdef
    by_cases h1 : 1000000000000 / (b.natAbs : Int) < (a.natAbs : Int)
    · rw [if_pos h1] at hdef
      rw [hdef]
      refine callA_of _ Try.func110 rfl Try.ntmps110 (by first | exact ⟨rfl, rfl⟩ | (simp only [List.all_cons, List.all_nil, V.solid, D.solid, D.solids, solids_ints, solids_bools, solids_LL, Bool.and_self, Bool.and_true, and_self]; done) | simp [V.solid, D.solid, D.solids, solids_lits, solids_ints, solids_bools, solids_LL]) ?_
      repeat' (first
          | (guard_target =~ WpA _ _ _ _ _ _; first
            | refine WpA.seq ?_
            | refine WpA.drawU ?_
            | refine WpA.regionU ?_
            | refine WpA.block ?_
            | refine WpA.ret ?_
            | refine WpA.skip ?_
            | refine WpA.exit ?_
            | refine WpA.cond_true rfl ?_
            | refine WpA.cond_false rfl ?_
            | refine WpA.cond_ntrue rfl ?_
            | refine WpA.cond_dec rfl (fun _ => ?_) (fun _ => ?_)
            | refine WpA.cond_not rfl (fun _ => ?_) (fun _ => ?_)
            | refine WpA.cond rfl (fun _ => ?_) (fun _ => ?_)
            )
          | (guard_target =~ RunU _ _ _ _ [] _ _ _ _; first
            | refine RunU.nilL ?_
            | refine RunU.nilD (by kernel_rfl) ?_
            )
          | (guard_target =~ RunU _ _ _ _ (Oper.mk _ (Op.call ⟨Callee.value _, _, _⟩) _ _ _ none :: _) _ _ _ _; first
            | refine RunU.cons (step_call (abs_c a (by omega)) (.sh .nil) (.sh shows_any .nil) rfl) ?_
            | refine RunU.cons (step_call (abs_c b (by omega)) (.sh .nil) (.sh shows_any .nil) rfl) ?_
            )
          | (guard_target =~ RunU _ _ _ _ (Oper.mk _ _ _ _ _ none :: _) _ _ _ _; refine RunU.cons step_any ?_)
          | (guard_target =~ RunU _ _ _ _ (Oper.mk _ _ _ _ _ (some _) :: _) _ _ _ _; first
            | refine RunU.pass rfl rfl rfl rfl ?_
            | refine RunU.pass_undef rfl rfl rfl ?_
            | (guard_target =~ RunU _ _ _ _ (Oper.mk _ (Op.call ⟨Callee.value _, _, _⟩) _ _ _ _ :: _) _ _ _ _; first
              | refine RunU.doit rfl rfl (step_call (abs_c a (by omega)) (.sh .nil) (.sh shows_any .nil) rfl) ?_
              | refine RunU.doit rfl rfl (step_call (abs_c b (by omega)) (.sh .nil) (.sh shows_any .nil) rfl) ?_
              )
            | refine RunU.doit rfl rfl step_any ?_
            | ((fail_if_success (refine RunU.doit (rd := []) (up := []) rfl rfl ?_ ?_)); first
              | refine RunU.guard_dec rfl rfl (fun _ => ?_) (fun _ => ?_)
              | refine RunU.guard_not rfl rfl (fun _ => ?_) (fun _ => ?_)
              | refine RunU.guard rfl rfl (fun _ => ?_) (fun _ => ?_))
            )
          | refine Then.next ?_
          | refine InBlock.next ?_
          | refine Done.ret (.one (by first | exact .c rfl | exact .own rfl | exact .als rfl rfl | exact .ptr rfl rfl | exact .part rfl rfl rfl) (.one (by first | exact .c rfl | exact .own rfl | exact .als rfl rfl | exact .ptr rfl rfl | exact .part rfl rfl rfl) .nil)) (.sh (.sh .nil)) ?_ rfl
          | refine Done.normal (.one (by first | exact .c rfl | exact .own rfl | exact .als rfl rfl | exact .ptr rfl rfl | exact .part rfl rfl rfl) (.one (by first | exact .c rfl | exact .own rfl | exact .als rfl rfl | exact .ptr rfl rfl | exact .part rfl rfl rfl) .nil)) (.sh (.sh .nil)) ?_ rfl)
      all_goals first | rfl | (exfalso; omega)
    · rw [if_neg h1] at hdef
      have hm : -1000000000000 ≤ a * b ∧ a * b ≤ 1000000000000 := by rw [hdef] at hle; omega
      rw [hdef]
      clear hdef hle
      refine callA_of _ Try.func110 rfl Try.ntmps110 (by first | exact ⟨rfl, rfl⟩ | (simp only [List.all_cons, List.all_nil, V.solid, D.solid, D.solids, solids_ints, solids_bools, solids_LL, Bool.and_self, Bool.and_true, and_self]; done) | simp [V.solid, D.solid, D.solids, solids_lits, solids_ints, solids_bools, solids_LL]) ?_
      repeat' (first
          | (guard_target =~ WpA _ _ _ _ _ _; first
            | refine WpA.seq ?_
            | refine WpA.drawU ?_
            | refine WpA.regionU ?_
            | refine WpA.block ?_
            | refine WpA.ret ?_
            | refine WpA.skip ?_
            | refine WpA.exit ?_
            | refine WpA.cond_true rfl ?_
            | refine WpA.cond_false rfl ?_
            | refine WpA.cond_ntrue rfl ?_
            | refine WpA.cond_dec rfl (fun _ => ?_) (fun _ => ?_)
            | refine WpA.cond_not rfl (fun _ => ?_) (fun _ => ?_)
            | refine WpA.cond rfl (fun _ => ?_) (fun _ => ?_)
            )
          | (guard_target =~ RunU _ _ _ _ [] _ _ _ _; first
            | refine RunU.nilL ?_
            | refine RunU.nilD (by kernel_rfl) ?_
            )
          | (guard_target =~ RunU _ _ _ _ (Oper.mk _ (Op.call ⟨Callee.value _, _, _⟩) _ _ _ none :: _) _ _ _ _; first
            | refine RunU.cons (step_call (abs_c a (by omega)) (.sh .nil) (.sh shows_any .nil) rfl) ?_
            | refine RunU.cons (step_call (abs_c b (by omega)) (.sh .nil) (.sh shows_any .nil) rfl) ?_
            )
          | (guard_target =~ RunU _ _ _ _ (Oper.mk _ _ _ _ _ none :: _) _ _ _ _; refine RunU.cons step_any ?_)
          | (guard_target =~ RunU _ _ _ _ (Oper.mk _ _ _ _ _ (some _) :: _) _ _ _ _; first
            | refine RunU.pass rfl rfl rfl rfl ?_
            | refine RunU.pass_undef rfl rfl rfl ?_
            | (guard_target =~ RunU _ _ _ _ (Oper.mk _ (Op.call ⟨Callee.value _, _, _⟩) _ _ _ _ :: _) _ _ _ _; first
              | refine RunU.doit rfl rfl (step_call (abs_c a (by omega)) (.sh .nil) (.sh shows_any .nil) rfl) ?_
              | refine RunU.doit rfl rfl (step_call (abs_c b (by omega)) (.sh .nil) (.sh shows_any .nil) rfl) ?_
              )
            | refine RunU.doit rfl rfl step_any ?_
            | ((fail_if_success (refine RunU.doit (rd := []) (up := []) rfl rfl ?_ ?_)); first
              | refine RunU.guard_dec rfl rfl (fun _ => ?_) (fun _ => ?_)
              | refine RunU.guard_not rfl rfl (fun _ => ?_) (fun _ => ?_)
              | refine RunU.guard rfl rfl (fun _ => ?_) (fun _ => ?_))
            )
          | refine Then.next ?_
          | refine InBlock.next ?_
          | refine Done.ret (.one (by first | exact .c rfl | exact .own rfl | exact .als rfl rfl | exact .ptr rfl rfl | exact .part rfl rfl rfl) (.one (by first | exact .c rfl | exact .own rfl | exact .als rfl rfl | exact .ptr rfl rfl | exact .part rfl rfl rfl) .nil)) (.sh (.sh .nil)) ?_ rfl
          | refine Done.normal (.one (by first | exact .c rfl | exact .own rfl | exact .als rfl rfl | exact .ptr rfl rfl | exact .part rfl rfl rfl) (.one (by first | exact .c rfl | exact .own rfl | exact .als rfl rfl | exact .ptr rfl rfl | exact .part rfl rfl rfl) .nil)) (.sh (.sh .nil)) ?_ rfl)
      all_goals first | rfl | (exfalso; omega)
theorem isValue_c (x : Int) : CallA Try.prog 111 [aI x] [rB (decide (-1000000000000 ≤ x ∧ x ≤ 1000000000000))] [] := by
  refine callA_of _ Try.func111 rfl Try.ntmps111 (by first | exact ⟨rfl, rfl⟩ | (simp only [List.all_cons, List.all_nil, V.solid, D.solid, D.solids, solids_ints, solids_bools, solids_LL, Bool.and_self, Bool.and_true, and_self]; done) | simp [V.solid, D.solid, D.solids, solids_lits, solids_ints, solids_bools, solids_LL]) ?_
  repeat' (first
      | (guard_target =~ WpA _ _ _ _ _ _; first
        | refine WpA.seq ?_
        | refine WpA.drawU ?_
        | refine WpA.regionU ?_
        | refine WpA.block ?_
        | refine WpA.ret ?_
        | refine WpA.skip ?_
        | refine WpA.exit ?_
        | refine WpA.cond_true rfl ?_
        | refine WpA.cond_false rfl ?_
        | refine WpA.cond_ntrue rfl ?_
        | refine WpA.cond_dec rfl (fun _ => ?_) (fun _ => ?_)
        | refine WpA.cond_not rfl (fun _ => ?_) (fun _ => ?_)
        | refine WpA.cond rfl (fun _ => ?_) (fun _ => ?_)
        )
      | (guard_target =~ RunU _ _ _ _ [] _ _ _ _; first
        | refine RunU.nilL ?_
        | refine RunU.nilD (by kernel_rfl) ?_
        )
      | (guard_target =~ RunU _ _ _ _ (Oper.mk _ (Op.call ⟨Callee.value _, _, _⟩) _ _ _ none :: _) _ _ _ _; first
        | refine RunU.cons (step_call (inRange_c _ _ _) (.sh (.sh (.sh .nil))) (.sh shows_any (.sh shows_any (.sh shows_any .nil))) rfl) ?_
        )
      | (guard_target =~ RunU _ _ _ _ (Oper.mk _ _ _ _ _ none :: _) _ _ _ _; refine RunU.cons step_any ?_)
      | (guard_target =~ RunU _ _ _ _ (Oper.mk _ _ _ _ _ (some _) :: _) _ _ _ _; first
        | refine RunU.pass rfl rfl rfl rfl ?_
        | refine RunU.pass_undef rfl rfl rfl ?_
        | (guard_target =~ RunU _ _ _ _ (Oper.mk _ (Op.call ⟨Callee.value _, _, _⟩) _ _ _ _ :: _) _ _ _ _; first
          | refine RunU.doit rfl rfl (step_call (inRange_c _ _ _) (.sh (.sh (.sh .nil))) (.sh shows_any (.sh shows_any (.sh shows_any .nil))) rfl) ?_
          )
        | refine RunU.doit rfl rfl step_any ?_
        | ((fail_if_success (refine RunU.doit (rd := []) (up := []) rfl rfl ?_ ?_)); first
          | refine RunU.guard_dec rfl rfl (fun _ => ?_) (fun _ => ?_)
          | refine RunU.guard_not rfl rfl (fun _ => ?_) (fun _ => ?_)
          | refine RunU.guard rfl rfl (fun _ => ?_) (fun _ => ?_))
        )
      | refine Then.next ?_
      | refine InBlock.next ?_
      | refine Done.ret (.one (by first | exact .c rfl | exact .own rfl | exact .als rfl rfl | exact .ptr rfl rfl | exact .part rfl rfl rfl) .nil) (.sh .nil) ?_ rfl
      | refine Done.normal (.one (by first | exact .c rfl | exact .own rfl | exact .als rfl rfl | exact .ptr rfl rfl | exact .part rfl rfl rfl) .nil) (.sh .nil) ?_ rfl)
  all_goals rfl
/-- The walker. -/
abbrev dWk (w : List Int) (N : List (List Int)) (s : VS) : D := .pt true [.sl false 1 (ints w), .sl true 1 (LL N), .sl true 1 (ints s.f), .sl true 1 (ints s.g), .sl true 1 (bools s.seen), .lit (.bool s.large)]
def stP (p r f g : Int) : Int := if okS p r f g = true then p * f else 0
def stR (p r f g : Int) : Int := if okS p r f g = true then r * f - p * g else 0
def stL (p r f g : Int) (b : Bool) : Bool := if okS p r f g = true then b else true
theorem step_c (w : List Int) (N : List (List Int)) (f g : List Int) (sn : List Bool) (lg : Bool) (p r x y : Int) (hp : -1000000000000 ≤ p ∧ p ≤ 1000000000000) (hr : -1000000000000 ≤ r ∧ r ≤ 1000000000000) (hx : -1000000000000 ≤ x ∧ x ≤ 1000000000000) (hy : -1000000000000 ≤ y ∧ y ≤ 1000000000000) :
    CallNS Try.prog 207 (dWk w N ⟨f, g, sn, lg⟩) [aI p, aI r, aI x, aI y] [rI (stP p r x y), rI (stR p r x y)] (dWk w N ⟨f, g, sn, stL p r x y lg⟩) := by
  have l1 := tms_le (a := r) (b := x)
  have l2 := tms_le (a := p) (b := y)
  have l3 := tms_le (a := p) (b := x)
  have hok : okS p r x y = true ↔ (tms r x).2 = true ∧ (tms p y).2 = true ∧ (tms p x).2 = true ∧ (-1000000000000 ≤ (tms r x).1 - (tms p y).1 ∧ (tms r x).1 - (tms p y).1 ≤ 1000000000000) := by
    simp only [okS, Bool.and_eq_true, decide_eq_true_eq, and_assoc]
  by_cases ho : okS p r x y = true
  · obtain ⟨q1, q2, q3⟩ := okS_parts ho
    have e1 : stP p r x y = (tms p x).1 := by rw [stP, if_pos ho, q3]
    have e2 : stR p r x y = (tms r x).1 - (tms p y).1 := by rw [stR, if_pos ho, q1, q2]
    have e3 : stL p r x y lg = lg := by rw [stL, if_pos ho]
    rw [e1, e2, e3]
    have hk := hok.1 ho
    clear hok
    refine callNS_of _ Try.func207 rfl Try.ntmps207 ?_
    repeat' (first
        | (guard_target =~ WpA _ _ _ _ _ _; first
          | refine WpA.seq ?_
          | refine WpA.drawU ?_
          | refine WpA.regionU ?_
          | refine WpA.block ?_
          | refine WpA.ret ?_
          | refine WpA.skip ?_
          | refine WpA.exit ?_
          | refine WpA.cond_true rfl ?_
          | refine WpA.cond_false rfl ?_
          | refine WpA.cond_ntrue rfl ?_
          | refine WpA.cond_dec rfl (fun _ => ?_) (fun _ => ?_)
          | refine WpA.cond_not rfl (fun _ => ?_) (fun _ => ?_)
          | refine WpA.cond rfl (fun _ => ?_) (fun _ => ?_)
          )
        | (guard_target =~ RunU _ _ _ _ [] _ _ _ _; first
          | refine RunU.nilL ?_
          | refine RunU.nilD (by kernel_rfl) ?_
          )
        | (guard_target =~ RunU _ _ _ _ (Oper.mk _ (Op.call ⟨Callee.value _, _, _⟩) _ _ _ none :: _) _ _ _ _; first
          | refine RunU.cons (step_call (times_c r x hr hx) (.sh (.sh .nil)) (.sh shows_any (.sh shows_any .nil)) rfl) ?_
          | refine RunU.cons (step_call (times_c p y hp hy) (.sh (.sh .nil)) (.sh shows_any (.sh shows_any .nil)) rfl) ?_
          | refine RunU.cons (step_call (times_c p x hp hx) (.sh (.sh .nil)) (.sh shows_any (.sh shows_any .nil)) rfl) ?_
          | refine RunU.cons (step_call (isValue_c _) (.sh .nil) (.sh shows_any .nil) rfl) ?_
          )
        | (guard_target =~ RunU _ _ _ _ (Oper.mk _ _ _ _ _ none :: _) _ _ _ _; refine RunU.cons step_any ?_)
        | (guard_target =~ RunU _ _ _ _ (Oper.mk _ _ _ _ _ (some _) :: _) _ _ _ _; first
          | refine RunU.pass rfl rfl rfl rfl ?_
          | refine RunU.pass_undef rfl rfl rfl ?_
          | (guard_target =~ RunU _ _ _ _ (Oper.mk _ (Op.call ⟨Callee.value _, _, _⟩) _ _ _ _ :: _) _ _ _ _; first
            | refine RunU.doit rfl rfl (step_call (times_c r x hr hx) (.sh (.sh .nil)) (.sh shows_any (.sh shows_any .nil)) rfl) ?_
            | refine RunU.doit rfl rfl (step_call (times_c p y hp hy) (.sh (.sh .nil)) (.sh shows_any (.sh shows_any .nil)) rfl) ?_
            | refine RunU.doit rfl rfl (step_call (times_c p x hp hx) (.sh (.sh .nil)) (.sh shows_any (.sh shows_any .nil)) rfl) ?_
            | refine RunU.doit rfl rfl (step_call (isValue_c _) (.sh .nil) (.sh shows_any .nil) rfl) ?_
            )
          | refine RunU.doit rfl rfl step_any ?_
          | ((fail_if_success (refine RunU.doit (rd := []) (up := []) rfl rfl ?_ ?_)); first
            | refine RunU.guard_dec rfl rfl (fun _ => ?_) (fun _ => ?_)
            | refine RunU.guard_not rfl rfl (fun _ => ?_) (fun _ => ?_)
            | refine RunU.guard rfl rfl (fun _ => ?_) (fun _ => ?_))
          )
        | refine Then.next ?_
        | refine InBlock.next ?_
        | refine DoneN.ret (.one (by first | exact .c rfl | exact .own rfl | exact .als rfl rfl | exact .ptr rfl rfl | exact .part rfl rfl rfl) (.one (by first | exact .c rfl | exact .own rfl | exact .als rfl rfl | exact .ptr rfl rfl | exact .part rfl rfl rfl) .nil)) rfl rfl rfl
        | refine DoneN.ret (.one (by first | exact .c rfl | exact .own rfl | exact .als rfl rfl | exact .ptr rfl rfl | exact .part rfl rfl rfl) (.one (by first | exact .c rfl | exact .own rfl | exact .als rfl rfl | exact .ptr rfl rfl | exact .part rfl rfl rfl) .nil)) rfl ?_ rfl
        | refine DoneN.ret (.one (by first | exact .c rfl | exact .own rfl | exact .als rfl rfl | exact .ptr rfl rfl | exact .part rfl rfl rfl) (.one (by first | exact .c rfl | exact .own rfl | exact .als rfl rfl | exact .ptr rfl rfl | exact .part rfl rfl rfl) .nil)) rfl rfl ?_
        | refine DoneN.ret (.one (by first | exact .c rfl | exact .own rfl | exact .als rfl rfl | exact .ptr rfl rfl | exact .part rfl rfl rfl) (.one (by first | exact .c rfl | exact .own rfl | exact .als rfl rfl | exact .ptr rfl rfl | exact .part rfl rfl rfl) .nil)) rfl ?_ ?_
        | refine DoneN.normal (.one (by first | exact .c rfl | exact .own rfl | exact .als rfl rfl | exact .ptr rfl rfl | exact .part rfl rfl rfl) (.one (by first | exact .c rfl | exact .own rfl | exact .als rfl rfl | exact .ptr rfl rfl | exact .part rfl rfl rfl) .nil)) rfl rfl rfl
        | refine DoneN.normal (.one (by first | exact .c rfl | exact .own rfl | exact .als rfl rfl | exact .ptr rfl rfl | exact .part rfl rfl rfl) (.one (by first | exact .c rfl | exact .own rfl | exact .als rfl rfl | exact .ptr rfl rfl | exact .part rfl rfl rfl) .nil)) rfl ?_ rfl
        | refine DoneN.normal (.one (by first | exact .c rfl | exact .own rfl | exact .als rfl rfl | exact .ptr rfl rfl | exact .part rfl rfl rfl) (.one (by first | exact .c rfl | exact .own rfl | exact .als rfl rfl | exact .ptr rfl rfl | exact .part rfl rfl rfl) .nil)) rfl rfl ?_
        | refine DoneN.normal (.one (by first | exact .c rfl | exact .own rfl | exact .als rfl rfl | exact .ptr rfl rfl | exact .part rfl rfl rfl) (.one (by first | exact .c rfl | exact .own rfl | exact .als rfl rfl | exact .ptr rfl rfl | exact .part rfl rfl rfl) .nil)) rfl ?_ ?_)
    all_goals first | rfl | (exfalso; simp_all; done) | (exfalso; simp_all; omega)
  · have e1 : stP p r x y = 0 := by rw [stP, if_neg ho]
    have e2 : stR p r x y = 0 := by rw [stR, if_neg ho]
    have e3 : stL p r x y lg = true := by rw [stL, if_neg ho]
    rw [e1, e2, e3]
    rw [hok] at ho
    clear hok
    refine callNS_of _ Try.func207 rfl Try.ntmps207 ?_
    repeat' (first
        | (guard_target =~ WpA _ _ _ _ _ _; first
          | refine WpA.seq ?_
          | refine WpA.drawU ?_
          | refine WpA.regionU ?_
          | refine WpA.block ?_
          | refine WpA.ret ?_
          | refine WpA.skip ?_
          | refine WpA.exit ?_
          | refine WpA.cond_true rfl ?_
          | refine WpA.cond_false rfl ?_
          | refine WpA.cond_ntrue rfl ?_
          | refine WpA.cond_dec rfl (fun _ => ?_) (fun _ => ?_)
          | refine WpA.cond_not rfl (fun _ => ?_) (fun _ => ?_)
          | refine WpA.cond rfl (fun _ => ?_) (fun _ => ?_)
          )
        | (guard_target =~ RunU _ _ _ _ [] _ _ _ _; first
          | refine RunU.nilL ?_
          | refine RunU.nilD (by kernel_rfl) ?_
          )
        | (guard_target =~ RunU _ _ _ _ (Oper.mk _ (Op.call ⟨Callee.value _, _, _⟩) _ _ _ none :: _) _ _ _ _; first
          | refine RunU.cons (step_call (times_c r x hr hx) (.sh (.sh .nil)) (.sh shows_any (.sh shows_any .nil)) rfl) ?_
          | refine RunU.cons (step_call (times_c p y hp hy) (.sh (.sh .nil)) (.sh shows_any (.sh shows_any .nil)) rfl) ?_
          | refine RunU.cons (step_call (times_c p x hp hx) (.sh (.sh .nil)) (.sh shows_any (.sh shows_any .nil)) rfl) ?_
          | refine RunU.cons (step_call (isValue_c _) (.sh .nil) (.sh shows_any .nil) rfl) ?_
          )
        | (guard_target =~ RunU _ _ _ _ (Oper.mk _ _ _ _ _ none :: _) _ _ _ _; refine RunU.cons step_any ?_)
        | (guard_target =~ RunU _ _ _ _ (Oper.mk _ _ _ _ _ (some _) :: _) _ _ _ _; first
          | refine RunU.pass rfl rfl rfl rfl ?_
          | refine RunU.pass_undef rfl rfl rfl ?_
          | (guard_target =~ RunU _ _ _ _ (Oper.mk _ (Op.call ⟨Callee.value _, _, _⟩) _ _ _ _ :: _) _ _ _ _; first
            | refine RunU.doit rfl rfl (step_call (times_c r x hr hx) (.sh (.sh .nil)) (.sh shows_any (.sh shows_any .nil)) rfl) ?_
            | refine RunU.doit rfl rfl (step_call (times_c p y hp hy) (.sh (.sh .nil)) (.sh shows_any (.sh shows_any .nil)) rfl) ?_
            | refine RunU.doit rfl rfl (step_call (times_c p x hp hx) (.sh (.sh .nil)) (.sh shows_any (.sh shows_any .nil)) rfl) ?_
            | refine RunU.doit rfl rfl (step_call (isValue_c _) (.sh .nil) (.sh shows_any .nil) rfl) ?_
            )
          | refine RunU.doit rfl rfl step_any ?_
          | ((fail_if_success (refine RunU.doit (rd := []) (up := []) rfl rfl ?_ ?_)); first
            | refine RunU.guard_dec rfl rfl (fun _ => ?_) (fun _ => ?_)
            | refine RunU.guard_not rfl rfl (fun _ => ?_) (fun _ => ?_)
            | refine RunU.guard rfl rfl (fun _ => ?_) (fun _ => ?_))
          )
        | refine Then.next ?_
        | refine InBlock.next ?_
        | refine DoneN.ret (.one (by first | exact .c rfl | exact .own rfl | exact .als rfl rfl | exact .ptr rfl rfl | exact .part rfl rfl rfl) (.one (by first | exact .c rfl | exact .own rfl | exact .als rfl rfl | exact .ptr rfl rfl | exact .part rfl rfl rfl) .nil)) rfl rfl rfl
        | refine DoneN.ret (.one (by first | exact .c rfl | exact .own rfl | exact .als rfl rfl | exact .ptr rfl rfl | exact .part rfl rfl rfl) (.one (by first | exact .c rfl | exact .own rfl | exact .als rfl rfl | exact .ptr rfl rfl | exact .part rfl rfl rfl) .nil)) rfl ?_ rfl
        | refine DoneN.ret (.one (by first | exact .c rfl | exact .own rfl | exact .als rfl rfl | exact .ptr rfl rfl | exact .part rfl rfl rfl) (.one (by first | exact .c rfl | exact .own rfl | exact .als rfl rfl | exact .ptr rfl rfl | exact .part rfl rfl rfl) .nil)) rfl rfl ?_
        | refine DoneN.ret (.one (by first | exact .c rfl | exact .own rfl | exact .als rfl rfl | exact .ptr rfl rfl | exact .part rfl rfl rfl) (.one (by first | exact .c rfl | exact .own rfl | exact .als rfl rfl | exact .ptr rfl rfl | exact .part rfl rfl rfl) .nil)) rfl ?_ ?_
        | refine DoneN.normal (.one (by first | exact .c rfl | exact .own rfl | exact .als rfl rfl | exact .ptr rfl rfl | exact .part rfl rfl rfl) (.one (by first | exact .c rfl | exact .own rfl | exact .als rfl rfl | exact .ptr rfl rfl | exact .part rfl rfl rfl) .nil)) rfl rfl rfl
        | refine DoneN.normal (.one (by first | exact .c rfl | exact .own rfl | exact .als rfl rfl | exact .ptr rfl rfl | exact .part rfl rfl rfl) (.one (by first | exact .c rfl | exact .own rfl | exact .als rfl rfl | exact .ptr rfl rfl | exact .part rfl rfl rfl) .nil)) rfl ?_ rfl
        | refine DoneN.normal (.one (by first | exact .c rfl | exact .own rfl | exact .als rfl rfl | exact .ptr rfl rfl | exact .part rfl rfl rfl) (.one (by first | exact .c rfl | exact .own rfl | exact .als rfl rfl | exact .ptr rfl rfl | exact .part rfl rfl rfl) .nil)) rfl rfl ?_
        | refine DoneN.normal (.one (by first | exact .c rfl | exact .own rfl | exact .als rfl rfl | exact .ptr rfl rfl | exact .part rfl rfl rfl) (.one (by first | exact .c rfl | exact .own rfl | exact .als rfl rfl | exact .ptr rfl rfl | exact .part rfl rfl rfl) .nil)) rfl ?_ ?_)
    all_goals first | rfl | (exfalso; simp_all; done) | (exfalso; simp_all; omega)
end Go.Proofs.Ytfkhngjkpjcdfaa
