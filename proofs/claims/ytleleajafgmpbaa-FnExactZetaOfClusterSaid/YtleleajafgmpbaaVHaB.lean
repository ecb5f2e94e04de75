/- Excesses of clusters: the program. No condition. -/
import Derived.Test.YtleleajafgmpbaaVGrZ
import Derived.Test.YtleleajafgmpbaaVGrF
import Derived.Test.YtleleajafgmpbaaVZcM
namespace Go.Proofs.Ytleleajafgmpbaa
set_option maxHeartbeats 20000000
set_option linter.unusedVariables false
set_option linter.unusedSimpArgs false
open Go.Pv
open Go.ChangeShapes Go.WideShapes Go.ChangeAt Go.RowKit
attribute [local irreducible] RunU WpA Step CallG CallNG Done DoneN
instance fnOk46 : FnOk Try.prog 46 := ⟨_, Try.func46, rfl, by decide⟩
end Go.Proofs.Ytleleajafgmpbaa
namespace Go.Proofs.Ytleleajafgmpbaa
set_option maxHeartbeats 20000000
set_option linter.unusedVariables false
set_option linter.unusedSimpArgs false
open Go.Pv
open Go.ChangeShapes Go.WideShapes Go.ChangeAt Go.RowKit
attribute [local irreducible] RunU WpA Step CallG CallNG Done DoneN
instance fnOk67 : FnOk Try.prog 67 := ⟨_, Try.func67, rfl, by decide⟩
instance fnOk81 : FnOk Try.prog 81 := ⟨_, Try.func81, rfl, by decide⟩
instance fnOk45 : FnOk Try.prog 45 := ⟨_, Try.func45, rfl, by decide⟩
instance fnOk84 : FnOk Try.prog 84 := ⟨_, Try.func84, rfl, by decide⟩
instance fnOk52 : FnOk Try.prog 52 := ⟨_, Try.func52, rfl, by decide⟩
theorem step_min {P : Program} {n : NN} {nid : Nat} {st : Nat → AV} {d : Nat} {x y : Operand} {a b : Int} {ts : Array TypeId} {ty pos aft g} (hx : Go.Pv.Lit st x (.int .i64 a)) (hy : Go.Pv.Lit st y (.int .i64 b)) (hd : n d = true) :
    Step P n ⟨some d, .call ⟨.builtin .min, #[x, y], ts⟩, ty, pos, aft, g⟩ nid st (rdOf x ++ rdOf y) [(d, .c (.lit (.int .i64 (if b < a then b else a))))] := by
  have := step_pure (P := P) (n := n) (nid := nid) (st := st) (o := ⟨some d, .call ⟨.builtin .min, #[x, y], ts⟩, ty, pos, aft, g⟩) (d := d) (u := .int .i64 (if b < a then b else a)) [(x, .int .i64 a), (y, .int .i64 b)] rfl hd rfl (by simpa using ⟨hx, hy⟩) (fun ev w hev => by
    have e1 := hev (x, .int .i64 a) (by simp)
    have e2 := hev (y, .int .i64 b) (by simp)
    simp only at e1 e2
    simp [execOp, resolve, invoke, builtin, e1, e2, Builtin.min_, Builtin.min2])
  simpa using this
def minL (l : List Int) : Nat → Int
  | 0 => l.getD 0 0
  | j + 1 => if l.getD (j + 1) 0 < minL l j then l.getD (j + 1) 0 else minL l j
theorem min_c (l : List Int) (h : 1 ≤ l.length) (hl : l.length ≤ 1000000000) : CallA Try.prog 67 [aL l] [rI (minL l (l.length - 1))] [] := by
  refine callA_of _ Try.func67 rfl Try.ntmps67 (by first | exact ⟨rfl, rfl⟩ | (simp only [List.all_cons, List.all_nil, V.solid, D.solid, D.solids, solids_ints, solids_bools, solids_LL, Bool.and_self, Bool.and_true, and_self]; done) | simp [V.solid, D.solid, D.solids, solids_lits, solids_ints, solids_bools, solids_LL]) ?_
  repeat' (first | (guard_target =~ WpA _ _ _ _ _ _; first | refine WpA.seq ?_ | refine WpA.drawU ?_ | refine WpA.regionU ?_ | refine WpA.block ?_ | refine WpA.ret ?_ | refine WpA.skip ?_ | refine WpA.exit ?_ | refine WpA.cond_true rfl ?_ | refine WpA.cond_false rfl ?_ | refine WpA.cond_ntrue rfl ?_ | refine WpA.cond_dec rfl (fun _ => ?_) (fun _ => ?_) | refine WpA.cond_not rfl (fun _ => ?_) (fun _ => ?_) | refine WpA.cond rfl (fun _ => ?_) (fun _ => ?_)) | (guard_target =~ RunU _ _ _ _ [] _ _ _ _; first | refine RunU.nilL ?_ | refine RunU.nilD (by kernel_rfl) ?_) | (guard_target =~ RunU _ _ _ _ (Oper.mk _ _ _ _ _ none :: _) _ _ _ _; refine RunU.cons step_any ?_) | refine Then.next ?_ | refine InBlock.next ?_ | refine Done.ret (.one (by first | exact .c rfl | exact .own rfl | exact .als rfl rfl | exact .ptr rfl rfl | exact .part rfl rfl rfl) .nil) (.sh .nil) ?_ rfl)
  all_goals try (exfalso; omega)
  refine WpA.loop_slots (ι := Nat) (fun j => [(0, .c (.sl false 1 (ints l))), (3, vGI (minL l j)), (4, vGI ((j : Int) + 1))]) (fun j => j + 1 ≤ l.length) (fun j => l.length - j) 0 (by omega) ⟨rfl, by exact rfl, rfl, trivial⟩ ?_
  intro j s nx hj
  by_cases hlt : j + 1 < l.length
  · have e : (if l.getD (j * 1 + 1) 0 < minL l j then l.getD (j * 1 + 1) 0 else minL l j) = minL l (j + 1) := by rw [Nat.mul_one]; rfl
    repeat' (first | (guard_target =~ WpA _ _ _ _ _ _; first | refine WpA.seq ?_ | refine WpA.drawU ?_ | refine WpA.regionU ?_ | refine WpA.block ?_ | refine WpA.ret ?_ | refine WpA.skip ?_ | refine WpA.exit ?_ | refine WpA.cond_true rfl ?_ | refine WpA.cond_false rfl ?_ | refine WpA.cond_ntrue rfl ?_ | refine WpA.cond_dec rfl (fun _ => ?_) (fun _ => ?_) | refine WpA.cond_not rfl (fun _ => ?_) (fun _ => ?_) | refine WpA.cond rfl (fun _ => ?_) (fun _ => ?_)) | (guard_target =~ RunU _ _ _ _ [] _ _ _ _; first | refine RunU.nilL ?_ | refine RunU.nilD (by kernel_rfl) ?_) | (guard_target =~ RunU _ _ _ _ (Oper.mk _ _ _ _ _ none :: _) _ _ _ _; first | refine RunU.cons (step_min rfl rfl rfl) ?_) | (guard_target =~ RunU _ _ _ _ (Oper.mk _ _ _ _ _ none :: _) _ _ _ _; refine RunU.cons step_any ?_) | refine Then.next ?_ | refine InBlock.next ?_ | refine Done.ret (.one (by first | exact .c rfl | exact .own rfl | exact .als rfl rfl | exact .ptr rfl rfl | exact .part rfl rfl rfl) .nil) (.sh .nil) ?_ rfl)
    all_goals try (exfalso; omega)
    exact ⟨j + 1, by omega, ⟨rfl, int_eq (by simp [minL]), int_eq (by omega), trivial⟩, by omega⟩
  · have ej : j = l.length - 1 := by omega
    subst ej
    repeat' (first | (guard_target =~ WpA _ _ _ _ _ _; first | refine WpA.seq ?_ | refine WpA.drawU ?_ | refine WpA.regionU ?_ | refine WpA.block ?_ | refine WpA.ret ?_ | refine WpA.skip ?_ | refine WpA.exit ?_ | refine WpA.cond_true rfl ?_ | refine WpA.cond_false rfl ?_ | refine WpA.cond_ntrue rfl ?_ | refine WpA.cond_dec rfl (fun _ => ?_) (fun _ => ?_) | refine WpA.cond_not rfl (fun _ => ?_) (fun _ => ?_) | refine WpA.cond rfl (fun _ => ?_) (fun _ => ?_)) | (guard_target =~ RunU _ _ _ _ [] _ _ _ _; first | refine RunU.nilL ?_ | refine RunU.nilD (by kernel_rfl) ?_) | (guard_target =~ RunU _ _ _ _ (Oper.mk _ _ _ _ _ none :: _) _ _ _ _; refine RunU.cons step_any ?_) | refine Then.next ?_ | refine InBlock.next ?_ | refine Done.ret (.one (by first | exact .c rfl | exact .own rfl | exact .als rfl rfl | exact .ptr rfl rfl | exact .part rfl rfl rfl) .nil) (.sh .nil) ?_ rfl)
    all_goals try (exfalso; omega)
    all_goals rfl
end Go.Proofs.Ytleleajafgmpbaa
namespace Go.Proofs.Ytleleajafgmpbaa
set_option maxHeartbeats 20000000
set_option linter.unusedVariables false
set_option linter.unusedSimpArgs false
open Go.Pv
open Go.ChangeShapes Go.WideShapes Go.ChangeAt Go.RowKit
attribute [local irreducible] RunU WpA Step CallG CallNG Done DoneN
instance fnOk93 : FnOk Try.prog 93 := ⟨_, Try.func93, rfl, by decide⟩
instance fnOk68 : FnOk Try.prog 68 := ⟨_, Try.func68, rfl, by decide⟩
instance fnOk33 : FnOk Try.prog 33 := ⟨_, Try.func33, rfl, by decide⟩
def sbTo (X L : List Int) (w : Int) : Nat → List Int
  | 0 => X
  | k + 1 => sub1 (sbTo X L w k) (L.getD k 0).toNat w
theorem sbTo_len (X L : List Int) (w : Int) : ∀ k, (sbTo X L w k).length = X.length
  | 0 => rfl
  | k + 1 => by rw [sbTo, sub1_len, sbTo_len X L w k]
theorem sbTo_in {X L : List Int} {w B : Int} (hB : ∀ i, -B ≤ X.getD i 0 ∧ X.getD i 0 ≤ B) (hw : -100000 ≤ w ∧ w ≤ 100000) : ∀ (k i : Nat), -(B + k * 100000) ≤ (sbTo X L w k).getD i 0 ∧ (sbTo X L w k).getD i 0 ≤ B + k * 100000
  | 0, i => by have := hB i; simp only [sbTo]; omega
  | k + 1, i => by
    have ih := sbTo_in (L := L) hB hw k i
    rw [sbTo]
    by_cases hi : i < (sbTo X L w k).length
    · rw [sub1_at _ _ _ _ hi]
      split <;> omega
    · rw [List.getD_eq_getElem?_getD, List.getElem?_eq_none (by rw [sub1_len]; omega)]
      have := hB X.length
      rw [List.getD_eq_getElem?_getD, List.getElem?_eq_none (Nat.le_refl _)] at this
      simp only [Option.getD_none] at this ⊢
      omega
theorem prxAt_len (P S : List Int) (j : Nat) : (prxAt P S j).length ≤ 2 := by
  unfold prxAt
  split
  · simp
  · split <;> simp
theorem two_at {a b z : Int} (ha : 0 ≤ a ∧ a < z) (hb : 0 ≤ b ∧ b < z) : ∀ k, k < [a, b].length → 0 ≤ [a, b].getD k 0 ∧ [a, b].getD k 0 < z
  | 0, _ => ha
  | 1, _ => hb
  | k + 2, h => absurd h (by simp)
theorem one_at {b z : Int} (hb : 0 ≤ b ∧ b < z) : ∀ k, k < [b].length → 0 ≤ [b].getD k 0 ∧ [b].getD k 0 < z
  | 0, _ => hb
  | k + 1, h => absurd h (by simp)
theorem prxAt_mem {P S W : List Int} (h : Cl P S W) {j : Nat} (hj : j < P.length) : ∀ k, k < (prxAt P S j).length → 0 ≤ (prxAt P S j).getD k 0 ∧ (prxAt P S j).getD k 0 < (j : Int) := by
  by_cases h0 : j = 0
  · subst h0
    intro k hk
    rw [show prxAt P S 0 = [] by simp [prxAt]] at hk
    exact absurd hk (by simp)
  · have hp := h.p j (by omega) hj
    have hs := h.s j hj
    by_cases h2 : 0 ≤ S.getD j 0
    · rw [show prxAt P S j = [S.getD j 0, P.getD j 0] by simp only [prxAt, if_neg h0, if_pos h2]; rfl]
      exact two_at (by omega) (by omega)
    · rw [show prxAt P S j = [P.getD j 0] by simp only [prxAt, if_neg h0, if_neg h2]; rfl]
      exact one_at (by omega)
theorem sbTo_end {P S W : List Int} (h : Cl P S W) {j : Nat} (hj : j < P.length) : sbTo (exTo P S W j) (prxAt P S j) (W.getD j 0) (prxAt P S j).length = exTo P S W (j + 1) := by
  by_cases h0 : j = 0
  · subst h0
    rw [show prxAt P S 0 = [] by simp [prxAt]]
    rw [exTo_first]
    show exTo P S W 0 = W
    exact exTo_zero P S W
  · by_cases hs : 0 ≤ S.getD j 0
    · have e := (exTo_two h (j := j) (by omega) hj hs).2
      rw [show prxAt P S j = [S.getD j 0, P.getD j 0] by simp only [prxAt, if_neg h0, if_pos hs]; rfl]
      exact e
    · have e := exTo_one h (j := j) (by omega) hj hs
      rw [show prxAt P S j = [P.getD j 0] by simp only [prxAt, if_neg h0, if_neg hs]; rfl]
      exact e
theorem exTo_in {P S W : List Int} (h : Cl P S W) {j : Nat} (hj : j ≤ P.length) (i : Nat) : -10000000 ≤ (exTo P S W j).getD i 0 ∧ (exTo P S W j).getD i 0 ≤ 10000000 := by
  have hl := h.len
  have hW := h.lW
  by_cases hi : i < W.length
  · have := exAt_bnd (P := P) (S := S) (W := W) (fun i hi => h.w i (by omega)) (i := i) hi j (by omega)
    rw [exTo_at _ _ _ _ hi]
    omega
  · rw [List.getD_eq_getElem?_getD, List.getElem?_eq_none (by rw [exTo_len]; omega)]
    simp
set_option maxRecDepth 100000 in
theorem excessesOf_c (P S W : List Int) (h : Cl P S W) : CallA Try.prog 93 [aLL (prxTo P S P.length), aL W] [rL (exTo P S W W.length)] [] := by
  have hl := h.len
  have hW := h.lW
  have hC := clone_c W (by omega)
  have hML := prxTo_len P S P.length
  have hMa : ∀ j, j < P.length → (prxTo P S P.length).getD (j * 1) [] = prxAt P S j := fun j hj => by rw [Nat.mul_one]; exact prxTo_at P S hj
  have h0 := exTo_zero P S W
  have hin := fun j (hj : j ≤ P.length) i => exTo_in h hj i
  have hst := fun j (hj : j < P.length) => sbTo_end h hj
  have hmem := fun j (hj : j < P.length) => prxAt_mem h hj
  have hw := h.w
  have hel := exTo_len P S W
  have hpl := prxAt_len P S
  clear h
  generalize prxTo P S P.length = M at *
  refine callA_of _ Try.func93 rfl Try.ntmps93 (by first | exact ⟨rfl, rfl⟩ | (simp only [List.all_cons, List.all_nil, V.solid, D.solid, D.solids, solids_ints, solids_bools, solids_LL, Bool.and_self, Bool.and_true, and_self]; done) | simp [V.solid, D.solid, D.solids, solids_lits, solids_ints, solids_bools, solids_LL]) ?_
  repeat' (first | (guard_target =~ WpA _ _ _ _ _ _; first | refine WpA.seq ?_ | refine WpA.drawU ?_ | refine WpA.regionU ?_ | refine WpA.block ?_ | refine WpA.ret ?_ | refine WpA.skip ?_ | refine WpA.exit ?_ | refine WpA.cond_true rfl ?_ | refine WpA.cond_false rfl ?_ | refine WpA.cond_ntrue rfl ?_ | refine WpA.cond_dec rfl (fun _ => ?_) (fun _ => ?_) | refine WpA.cond_not rfl (fun _ => ?_) (fun _ => ?_) | refine WpA.cond rfl (fun _ => ?_) (fun _ => ?_)) | (guard_target =~ RunU _ _ _ _ [] _ _ _ _; first | refine RunU.nilL ?_ | refine RunU.nilD (by kernel_rfl) ?_) | (guard_target =~ RunU _ _ _ _ (Oper.mk _ (Op.call ⟨Callee.value _, _, _⟩) _ _ _ none :: _) _ _ _ _; first | refine RunU.cons (step_call (hC) (.sh .nil) (.sh shows_any .nil) rfl) ?_) | (guard_target =~ RunU _ _ _ _ (Oper.mk _ _ _ _ _ none :: _) _ _ _ _; refine RunU.cons step_any ?_) | ((fail_if_success (guard_target =~ @Eq _ _ _)); (fail_if_success (guard_target =~ @Exists _ _)); first | refine Then.next ?_ | refine InBlock.next ?_ | refine Done.ret (.one (by first | exact .c rfl | exact .own rfl | exact .als rfl rfl | exact .ptr rfl rfl | exact .part rfl rfl rfl) .nil) (.sh (.sh .nil)) ?_ rfl))
  clear hC
  refine WpA.loop_slots2 (fun j id => [(1, .c (.sl false 1 (ints W))), (5, .own id (.sl true 1 (ints (exTo P S W j)))), (12, .c (.sl false 1 (LLs M))), (13, vJ P.length), (14, vJ j)]) (fun j => j ≤ P.length) (fun j => P.length - j) 0 _ (by omega) ⟨rfl, by exact own_ints h0.symm, rfl, int_eq (by omega), rfl, trivial⟩ ?_
  intro j id s nx hj
  by_cases hlt : j < P.length
  · have ha := hMa j hlt
    have hst := hst j hlt
    have hmem := hmem j hlt
    have hpl := hpl j
    have hin := hin j hj
    have hel := hel j
    have hw := hw (j * 1) (by omega)
    rw [show W.getD j 0 = W.getD (j * 1) 0 by rw [Nat.mul_one], ← ha] at hst
    rw [← ha] at hmem hpl
    generalize exTo P S W j = X at *
    clear ha h0 hMa
    repeat' (first | (guard_target =~ WpA _ _ _ _ _ _; first | refine WpA.seq ?_ | refine WpA.drawU ?_ | refine WpA.regionU ?_ | refine WpA.block ?_ | refine WpA.ret ?_ | refine WpA.skip ?_ | refine WpA.exit ?_ | refine WpA.cond_true rfl ?_ | refine WpA.cond_false rfl ?_ | refine WpA.cond_ntrue rfl ?_ | refine WpA.cond_dec rfl (fun _ => ?_) (fun _ => ?_) | refine WpA.cond_not rfl (fun _ => ?_) (fun _ => ?_) | refine WpA.cond rfl (fun _ => ?_) (fun _ => ?_)) | (guard_target =~ RunU _ _ _ _ [] _ _ _ _; first | refine RunU.nilL ?_ | refine RunU.nilD (by kernel_rfl) ?_) | (guard_target =~ RunU _ _ _ _ (Oper.mk _ _ _ _ _ none :: _) _ _ _ _; refine RunU.cons step_any ?_) | ((fail_if_success (guard_target =~ @Eq _ _ _)); (fail_if_success (guard_target =~ @Exists _ _)); first | refine Then.next ?_ | refine InBlock.next ?_ | refine Done.ret (.one (by first | exact .c rfl | exact .own rfl | exact .als rfl rfl | exact .ptr rfl rfl | exact .part rfl rfl rfl) .nil) (.sh (.sh .nil)) ?_ rfl))
    all_goals try (exfalso; omega)
    refine WpA.loop_slots2 (fun k id => [(1, .c (.sl false 1 (ints W))), (5, .own id (.sl true 1 (ints (sbTo X (M.getD (j * 1) []) (W.getD (j * 1) 0) k)))), (6, vJ j), (12, .c (.sl false 1 (LLs M))), (13, vJ P.length), (14, vJ j), (19, .c (.sl false 1 (ints (M.getD (j * 1) [])))), (20, vJ (M.getD (j * 1) []).length), (21, vJ k)]) (fun k => k ≤ (M.getD (j * 1) []).length) (fun k => (M.getD (j * 1) []).length - k) 0 _ (by omega) ⟨rfl, by exact rfl, rfl, rfl, rfl, rfl, rfl, rfl, rfl, trivial⟩ ?_
    intro k id s nx hk
    have hsl := sbTo_len X (M.getD (j * 1) []) (W.getD (j * 1) 0) k
    by_cases hkl : k < (M.getD (j * 1) []).length
    · have m1 := hmem (k * 1) (by omega)
      have b1 := sbTo_in (L := M.getD (j * 1) []) hin hw k (((M.getD (j * 1) []).getD (k * 1) 0).toNat * 1)
      have e : (sbTo X (M.getD (j * 1) []) (W.getD (j * 1) 0) k).set (((M.getD (j * 1) []).getD (k * 1) 0).toNat * 1) ((sbTo X (M.getD (j * 1) []) (W.getD (j * 1) 0) k).getD (((M.getD (j * 1) []).getD (k * 1) 0).toNat * 1) 0 - W.getD (j * 1) 0) = sbTo X (M.getD (j * 1) []) (W.getD (j * 1) 0) (k + 1) := by
        simp only [Nat.mul_one]; rfl
      clear hst hmem hin
      generalize hG : sbTo X (M.getD (j * 1) []) (W.getD (j * 1) 0) k = Y at *
      repeat' (first | (guard_target =~ WpA _ _ _ _ _ _; first | refine WpA.seq ?_ | refine WpA.drawU ?_ | refine WpA.regionU ?_ | refine WpA.block ?_ | refine WpA.ret ?_ | refine WpA.skip ?_ | refine WpA.exit ?_ | refine WpA.cond_true rfl ?_ | refine WpA.cond_false rfl ?_ | refine WpA.cond_ntrue rfl ?_ | refine WpA.cond_dec rfl (fun _ => ?_) (fun _ => ?_) | refine WpA.cond_not rfl (fun _ => ?_) (fun _ => ?_) | refine WpA.cond rfl (fun _ => ?_) (fun _ => ?_)) | (guard_target =~ RunU _ _ _ _ [] _ _ _ _; first | refine RunU.nilL ?_ | refine RunU.nilD (by kernel_rfl) ?_) | (guard_target =~ RunU _ _ _ _ (Oper.mk _ _ _ _ _ none :: _) _ _ _ _; refine RunU.cons step_any ?_) | ((fail_if_success (guard_target =~ @Eq _ _ _)); (fail_if_success (guard_target =~ @Exists _ _)); first | refine Then.next ?_ | refine InBlock.next ?_ | refine Done.ret (.one (by first | exact .c rfl | exact .own rfl | exact .als rfl rfl | exact .ptr rfl rfl | exact .part rfl rfl rfl) .nil) (.sh (.sh .nil)) ?_ rfl))
      all_goals try (exfalso; omega)
      all_goals exact ⟨k + 1, by omega, ⟨_, rfl, by exact own_ints e, rfl, rfl, rfl, rfl, rfl, rfl, int_eq (by omega), trivial⟩, by omega⟩
    · obtain rfl : k = (M.getD (j * 1) []).length := by omega
      clear hmem hin
      repeat' (first | (guard_target =~ WpA _ _ _ _ _ _; first | refine WpA.seq ?_ | refine WpA.drawU ?_ | refine WpA.regionU ?_ | refine WpA.block ?_ | refine WpA.ret ?_ | refine WpA.skip ?_ | refine WpA.exit ?_ | refine WpA.cond_true rfl ?_ | refine WpA.cond_false rfl ?_ | refine WpA.cond_ntrue rfl ?_ | refine WpA.cond_dec rfl (fun _ => ?_) (fun _ => ?_) | refine WpA.cond_not rfl (fun _ => ?_) (fun _ => ?_) | refine WpA.cond rfl (fun _ => ?_) (fun _ => ?_)) | (guard_target =~ RunU _ _ _ _ [] _ _ _ _; first | refine RunU.nilL ?_ | refine RunU.nilD (by kernel_rfl) ?_) | (guard_target =~ RunU _ _ _ _ (Oper.mk _ _ _ _ _ none :: _) _ _ _ _; refine RunU.cons step_any ?_) | ((fail_if_success (guard_target =~ @Eq _ _ _)); (fail_if_success (guard_target =~ @Exists _ _)); first | refine Then.next ?_ | refine InBlock.next ?_ | refine Done.ret (.one (by first | exact .c rfl | exact .own rfl | exact .als rfl rfl | exact .ptr rfl rfl | exact .part rfl rfl rfl) .nil) (.sh (.sh .nil)) ?_ rfl))
      all_goals try (exfalso; omega)
      all_goals exact ⟨j + 1, by omega, ⟨_, rfl, by exact own_ints hst, rfl, rfl, int_eq (by omega), trivial⟩, by omega⟩
  · obtain rfl : j = P.length := by omega
    rw [hW]
    clear hin hst hmem hw hMa h0
    repeat' (first | (guard_target =~ WpA _ _ _ _ _ _; first | refine WpA.seq ?_ | refine WpA.drawU ?_ | refine WpA.regionU ?_ | refine WpA.block ?_ | refine WpA.ret ?_ | refine WpA.skip ?_ | refine WpA.exit ?_ | refine WpA.cond_true rfl ?_ | refine WpA.cond_false rfl ?_ | refine WpA.cond_ntrue rfl ?_ | refine WpA.cond_dec rfl (fun _ => ?_) (fun _ => ?_) | refine WpA.cond_not rfl (fun _ => ?_) (fun _ => ?_) | refine WpA.cond rfl (fun _ => ?_) (fun _ => ?_)) | (guard_target =~ RunU _ _ _ _ [] _ _ _ _; first | refine RunU.nilL ?_ | refine RunU.nilD (by kernel_rfl) ?_) | (guard_target =~ RunU _ _ _ _ (Oper.mk _ _ _ _ _ none :: _) _ _ _ _; refine RunU.cons step_any ?_) | ((fail_if_success (guard_target =~ @Eq _ _ _)); (fail_if_success (guard_target =~ @Exists _ _)); first | refine Then.next ?_ | refine InBlock.next ?_ | refine Done.ret (.one (by first | exact .c rfl | exact .own rfl | exact .als rfl rfl | exact .ptr rfl rfl | exact .part rfl rfl rfl) .nil) (.sh (.sh .nil)) ?_ rfl))
    all_goals first | rfl | (exfalso; omega)
set_option maxRecDepth 100000 in
theorem implEx_c (P S W : List Int) (h : Cl P S W) : CallA Try.prog 68 [aCl P S W] [rL (exTo P S W W.length)] [] := by
  have hP := clPrx_c P S W h
  have hE := excessesOf_c P S W h
  clear h
  refine callA_of _ Try.func68 rfl Try.ntmps68 (by first | exact ⟨rfl, rfl⟩ | (simp only [List.all_cons, List.all_nil, V.solid, D.solid, D.solids, solids_ints, solids_bools, solids_LL, Bool.and_self, Bool.and_true, and_self]; done) | simp [V.solid, D.solid, D.solids, solids_lits, solids_ints, solids_bools, solids_LL]) ?_
  repeat' (first | (guard_target =~ WpA _ _ _ _ _ _; first | refine WpA.seq ?_ | refine WpA.drawU ?_ | refine WpA.regionU ?_ | refine WpA.block ?_ | refine WpA.ret ?_ | refine WpA.skip ?_ | refine WpA.exit ?_ | refine WpA.cond_true rfl ?_ | refine WpA.cond_false rfl ?_ | refine WpA.cond_ntrue rfl ?_ | refine WpA.cond_dec rfl (fun _ => ?_) (fun _ => ?_) | refine WpA.cond_not rfl (fun _ => ?_) (fun _ => ?_) | refine WpA.cond rfl (fun _ => ?_) (fun _ => ?_)) | (guard_target =~ RunU _ _ _ _ [] _ _ _ _; first | refine RunU.nilL ?_ | refine RunU.nilD (by kernel_rfl) ?_) | (guard_target =~ RunU _ _ _ _ (Oper.mk _ (Op.call ⟨Callee.value _, _, _⟩) _ _ _ none :: _) _ _ _ _; first | refine RunU.cons (step_call (hP) (.sh .nil) (.shAgg rfl aggs_any .nil) rfl) ?_ | refine RunU.cons (step_call (hE) (.sh (.sh .nil)) (.sh shows_any (.sh shows_any .nil)) rfl) ?_) | (guard_target =~ RunU _ _ _ _ (Oper.mk _ _ _ _ _ none :: _) _ _ _ _; refine RunU.cons step_any ?_) | ((fail_if_success (guard_target =~ @Eq _ _ _)); (fail_if_success (guard_target =~ @Exists _ _)); first | refine Then.next ?_ | refine InBlock.next ?_ | refine Done.ret (.one (by first | exact .c rfl | exact .own rfl | exact .als rfl rfl | exact .ptr rfl rfl | exact .part rfl rfl rfl) .nil) (.sh .nil) ?_ rfl))
  all_goals rfl
theorem minL_nn {l : List Int} : ∀ j, 0 ≤ minL l j ↔ ∀ i, i ≤ j → 0 ≤ l.getD i 0
  | 0 => by
    rw [minL]
    exact ⟨fun h i hi => by rw [Nat.le_zero.1 hi]; exact h, fun h => h 0 (by omega)⟩
  | j + 1 => by
    have ih := minL_nn (l := l) j
    rw [minL]
    constructor
    · intro h i hi
      by_cases e : i = j + 1
      · rw [e]; split at h <;> omega
      · exact ih.1 (by split at h <;> omega) i (by omega)
    · intro h
      have h1 := ih.2 fun i hi => h i (by omega)
      have h2 := h (j + 1) (by omega)
      split <;> omega
set_option maxRecDepth 100000 in
theorem implCons_c (P S W : List Int) (h : Cl P S W) : CallA Try.prog 33 [aCl P S W] [rB (decide (ConsC P S W))] [] := by
  have hE := implEx_c P S W h
  have hel := exTo_len P S W W.length
  have hl := h.len
  have hW := h.lW
  have hM := min_c (exTo P S W W.length) (by omega) (by omega)
  have hiff : ConsC P S W ↔ 0 ≤ minL (exTo P S W W.length) ((exTo P S W W.length).length - 1) := by
    rw [minL_nn, hel]
    exact ⟨fun h i hi => h i (by omega), fun h i hi => h i (by omega)⟩
  rw [show decide (ConsC P S W) = decide (0 ≤ minL (exTo P S W W.length) ((exTo P S W W.length).length - 1)) from decide_eq_decide.2 hiff]
  clear hiff h hel
  generalize minL (exTo P S W W.length) ((exTo P S W W.length).length - 1) = m at *
  generalize exTo P S W W.length = E at *
  refine callA_of _ Try.func33 rfl Try.ntmps33 (by first | exact ⟨rfl, rfl⟩ | (simp only [List.all_cons, List.all_nil, V.solid, D.solid, D.solids, solids_ints, solids_bools, solids_LL, Bool.and_self, Bool.and_true, and_self]; done) | simp [V.solid, D.solid, D.solids, solids_lits, solids_ints, solids_bools, solids_LL]) ?_
  repeat' (first | (guard_target =~ WpA _ _ _ _ _ _; first | refine WpA.seq ?_ | refine WpA.drawU ?_ | refine WpA.regionU ?_ | refine WpA.block ?_ | refine WpA.ret ?_ | refine WpA.skip ?_ | refine WpA.exit ?_ | refine WpA.cond_true rfl ?_ | refine WpA.cond_false rfl ?_ | refine WpA.cond_ntrue rfl ?_ | refine WpA.cond_dec rfl (fun _ => ?_) (fun _ => ?_) | refine WpA.cond_not rfl (fun _ => ?_) (fun _ => ?_) | refine WpA.cond rfl (fun _ => ?_) (fun _ => ?_)) | (guard_target =~ RunU _ _ _ _ [] _ _ _ _; first | refine RunU.nilL ?_ | refine RunU.nilD (by kernel_rfl) ?_) | (guard_target =~ RunU _ _ _ _ (Oper.mk _ (Op.call ⟨Callee.value _, _, _⟩) _ _ _ none :: _) _ _ _ _; first | refine RunU.cons (step_call (hE) (.sh .nil) (.shAgg rfl aggs_any .nil) rfl) ?_ | refine RunU.cons (step_call (hM) (.sh .nil) (.sh shows_any .nil) rfl) ?_) | (guard_target =~ RunU _ _ _ _ (Oper.mk _ _ _ _ _ none :: _) _ _ _ _; refine RunU.cons step_any ?_) | ((fail_if_success (guard_target =~ @Eq _ _ _)); (fail_if_success (guard_target =~ @Exists _ _)); first | refine Then.next ?_ | refine InBlock.next ?_ | refine Done.ret (.one (by first | exact .c rfl | exact .own rfl | exact .als rfl rfl | exact .ptr rfl rfl | exact .part rfl rfl rfl) .nil) (.sh .nil) ?_ rfl))
  all_goals rfl
end Go.Proofs.Ytleleajafgmpbaa
