/- Drawn branches: the reference's draws hand out branches. No condition. -/
import Derived.Test.YtohhkbbjdjibgaaFTy
import Derived.Test.YtohhkbbjdjibgaaFDrB
set_option linter.unusedVariables false
set_option linter.unusedSimpArgs false
namespace Go.Proofs.Ytohhkbbjdjibgaa
set_option maxRecDepth 100000
set_option maxHeartbeats 20000000
open Go.Pv
open Go.ChangeShapes Go.WideShapes Go.ChangeAt Go.RowKit
attribute [local irreducible] RunU WpA Step CallG CallNG Done DoneN
instance fnOk49 : FnOk Try.prog 49 := ⟨_, Try.func49, rfl, by decide⟩
instance fnOk32 : FnOk Try.prog 32 := ⟨_, Try.func32, rfl, by decide⟩
attribute [local irreducible] decStrict decFalls decIsBr decWithin Strict Falls IsBr Within
abbrev St := Int × Int
def OkS (l : List Int) (s : St) : Prop := 0 ≤ s.1 ∧ s.1 ≤ l.length
abbrev dSs (l : List Int) (s : St) : D := dSr l s.1 s.2
structure By (l : List Int) : Prop where
 len : l.length ≤ 9223372036854775807
 b : ∀ i, 0 ≤ l.getD i 0 ∧ l.getD i 0 ≤ 255
def Dr1 (l : List Int) (s : St) (n x : Int) (s' : St) : Prop := (0 ≤ x ∧ (n < 1 → x = 0) ∧ (1 ≤ n → x < n)) ∧ OkS l s' ∧ CallNS Try.prog 22 (dSs l s) [aI n] [rI x] (dSs l s')
theorem dr1_ex {l : List Int} (hb : By l) {s : St} (hs : OkS l s) (n : Int) : ∃ x s', Dr1 l s n x s' := by
 obtain ⟨x, a, h, h1, h2, h3⟩ := next_c' l hb.len hb.b s.1 s.2 n hs
 exact ⟨x, (a, h), h1, h2, h3⟩
def DrP (l : List Int) (s : St) (L : List Int) (x : Int) (s' : St) : Prop := (∃ i, i < L.length ∧ x = L.getD i 0) ∧ OkS l s' ∧ CallNS Try.prog 50 (dSs l s) [.mv (.one (.sl true 1 (ints L)))] [rI x] (dSs l s')
theorem drP_ex {l : List Int} (hb : By l) {s : St} (hs : OkS l s) (L : List Int) (h1 : 1 ≤ L.length ∧ L.length ≤ 1000) : ∃ x s', DrP l s L x s' := by
 obtain ⟨i, a, h, h1, h2, h3⟩ := pick_c l hb.len hb.b s.1 s.2 L h1 hs
 exact ⟨L.getD i 0, (a, h), ⟨i, h1, rfl⟩, h2, h3⟩
def cop (own : Int) : Int → Nat → Int
 | c, 0 => c
 | c, f + 1 => if 1 < (Int.gcd c own : Int) then cop own (c + 1) f else c
theorem cop_tab : ∀ o : Fin 4, ∀ c : Fin 41, (Int.gcd (cop ((o.val : Int) + 2) (c.val : Int) 5) ((o.val : Int) + 2) : Int) ≤ 1 ∧ (c.val : Int) ≤ cop ((o.val : Int) + 2) (c.val : Int) 5 ∧ cop ((o.val : Int) + 2) (c.val : Int) 5 ≤ (c.val : Int) + 5 := by decide +kernel
theorem cop_ok {own c : Int} (ho : 2 ≤ own ∧ own ≤ 5) (hc : 0 ≤ c ∧ c ≤ 40) : (Int.gcd (cop own c 5) own : Int) ≤ 1 ∧ c ≤ cop own c 5 ∧ cop own c 5 ≤ c + 5 := by
 have := cop_tab ⟨(own - 2).toNat, by omega⟩ ⟨c.toNat, by omega⟩
 simp only at this
 rwa [show (((own - 2).toNat : Nat) : Int) + 2 = own by omega, show ((c.toNat : Nat) : Int) = c by omega] at this
def c3 (ps : List (List Int)) (own y : Int) : Int := if ps.length = 0 then cop own (cop own (1 + y) 5 + own) 5 else cop own (1 + y) 5
inductive SmGo (l : List Int) (most : Int) : Nat → List (List Int) → Int → St → List (List Int) → St → Prop
 | done {ps n s} : SmGo l most 0 ps n s ps s
 | skip {k ps n s x s1 P S} (h1 : Dr1 l s 4 x s1) (hm : most < n * (2 + x)) (r : SmGo l most k ps n s1 P S) : SmGo l most (k + 1) ps n s P S
 | more {k ps n s x s1 v s2 y s3 P S} (h1 : Dr1 l s 4 x s1) (hm : n * (2 + x) ≤ most) (h2 : DrP l s1 [4, 8, 12] v s2) (h3 : Dr1 l s2 v y s3) (hy : 0 ≤ y ∧ y ≤ 11)
   (r : SmGo l most k (ps ++ [[c3 ps (2 + x) y, 2 + x]]) (n * (2 + x)) s3 P S) : SmGo l most (k + 1) ps n s P S
theorem pr2_app (ps qs : List (List Int)) : ∀ j, j ≤ ps.length → pr2 (ps ++ qs) j = pr2 ps j
 | 0, _ => rfl
 | j + 1, hj => by
  have e : (ps ++ qs).getD j [] = ps.getD j [] := by rw [List.getD_eq_getElem?_getD, List.getElem?_append_left (by omega), ← List.getD_eq_getElem?_getD]
  simp only [pr2]
  rw [pr2_app ps qs j (by omega), e]
theorem getD_app {ps : List (List Int)} {r : List Int} {i : Nat} (hi : i < (ps ++ [r]).length) : (ps ++ [r]).getD i [] = if i < ps.length then ps.getD i [] else r := by
 by_cases h : i < ps.length
 ·rw [if_pos h, List.getD_eq_getElem?_getD, List.getElem?_append_left h, ← List.getD_eq_getElem?_getD]
 ·have : i = ps.length := by simp at hi; omega
  subst this
  rw [if_neg h, List.getD_eq_getElem?_getD, List.getElem?_append_right (Nat.le_refl _), Nat.sub_self]
  rfl
theorem goodP_add {ps : List (List Int)} (h : GoodP ps) {c own : Int} (hl : ps.length < 3) (hc : 1 ≤ c ∧ c ≤ 60) (ho : 1 ≤ own ∧ own ≤ 5) (hm : 1 ≤ pr2 ps ps.length * own ∧ pr2 ps ps.length * own ≤ 64) : GoodP (ps ++ [[c, own]]) where
 len := by simp; omega
 row := fun i hi => by rw [getD_app hi]; split; exact h.row i ‹_›; rfl
 v1 := fun i hi => by rw [getD_app hi]; split; exact h.v1 i ‹_›; exact hc
 v2 := fun i hi => by rw [getD_app hi]; split; exact h.v2 i ‹_›; exact ho
 pr := fun j hj => by
  by_cases e : j ≤ ps.length
  ·rw [pr2_app _ _ _ e]; exact h.pr j e
  ·have : j = ps.length + 1 := by simp at hj; omega
   subst this
   rw [pr2, pr2_app _ _ _ (Nat.le_refl _), getD_app (by simp), if_neg (by omega)]
   exact hm
theorem c3_ok (ps : List (List Int)) {own y : Int} (ho : 2 ≤ own ∧ own ≤ 5) (hy : 0 ≤ y ∧ y ≤ 11) : 1 ≤ c3 ps own y ∧ c3 ps own y ≤ 60 := by
 have h1 := cop_ok (c := 1 + y) ho (by omega)
 unfold c3
 split
 ·have h2 := cop_ok (c := cop own (1 + y) 5 + own) ho (by omega)
  omega
 ·omega
theorem smGo_ex {l : List Int} (hb : By l) {most : Int} (hmo : most ≤ 64) : ∀ (k : Nat) (ps : List (List Int)) (n : Int) (s : St), GoodP ps → pr2 ps ps.length = n → ps.length + k ≤ 3 → OkS l s → ∃ P S, SmGo l most k ps n s P S ∧ GoodP P ∧ OkS l S
 | 0, ps, n, s, hg, _, _, hs => ⟨ps, s, .done, hg, hs⟩
 | k + 1, ps, n, s, hg, hn, hk, hs => by
  obtain ⟨x, s1, d1⟩ := dr1_ex hb hs 4
  have hx : 0 ≤ x ∧ x < 4 := ⟨d1.1.1, d1.1.2.2 (by omega)⟩
  have hp := hg.pr ps.length (Nat.le_refl _)
  by_cases hm : n * (2 + x) ≤ most
  ·obtain ⟨v, s2, d2⟩ := drP_ex hb d1.2.1 [4, 8, 12] (by simp)
   obtain ⟨y, s3, d3⟩ := dr1_ex hb d2.2.1 v
   have hv : 1 ≤ v ∧ v ≤ 12 := by
    obtain ⟨i, hi, e⟩ := d2.1
    match i, hi with
    | 0, _ => simp at e; omega
    | 1, _ => simp at e; omega
    | 2, _ => simp at e; omega
   have hy : 0 ≤ y ∧ y ≤ 11 := ⟨d3.1.1, by have := d3.1.2.2 (by omega); omega⟩
   have hc := c3_ok ps (own := 2 + x) (by omega) hy
   have h1 : 1 ≤ n * (2 + x) := by
    have : 1 * 1 ≤ n * (2 + x) := Int.mul_le_mul (by omega) (by omega) (by omega) (by omega)
    omega
   have hg2 := goodP_add hg (c := c3 ps (2 + x) y) (own := 2 + x) (by omega) hc (by omega) (by rw [hn]; omega)
   obtain ⟨P, S, r, g, o⟩ := smGo_ex hb hmo k _ (n * (2 + x)) s3 hg2 (by rw [List.length_append, List.length_singleton, pr2, pr2_app _ _ _ (Nat.le_refl _), getD_app (by simp), if_neg (by omega), hn]; rfl) (by simp; omega) d3.2.1
   exact ⟨P, S, .more d1 hm d2 d3 hy r, g, o⟩
  ·obtain ⟨P, S, r, g, o⟩ := smGo_ex hb hmo k ps n s1 hg hn (by omega) d1.2.1
   exact ⟨P, S, .skip d1 (by omega) r, g, o⟩
abbrev brT (T : List Int) : V := .agg [.sl true 1 (ints T)]
theorem small_ex {l : List Int} (hb : By l) {s : St} (hs : OkS l s) (most term : Int) (hmo : 1 ≤ most ∧ most ≤ 64) : ∃ (T : List Int) (s' : St), (IsBr T ∨ T = [1] ∨ T = [2] ∨ T = [3]) ∧ OkS l s' ∧
  CallNS Try.prog 49 (dSs l s) [aI most, aI term] [brT T] (dSs l s') := by
 obtain ⟨x0, s0, d0⟩ := dr1_ex hb hs 3
 have hx0 : 0 ≤ x0 ∧ x0 < 3 := ⟨d0.1.1, d0.1.2.2 (by omega)⟩
 obtain ⟨P, S, hgo, hP, hS⟩ := smGo_ex hb hmo.2 (1 + x0).toNat [] 1 s0 ⟨by simp, fun i hi => by simp at hi, fun i hi => by simp at hi, fun i hi => by simp at hi, fun j hj => by
  have : j = 0 := by simpa using hj
  subst this; simp [pr2]⟩ rfl (by simp; omega) d0.2.1
 obtain ⟨T, code, hT, hB⟩ := bon_ex P hP
 obtain ⟨x1, s1, d1⟩ := dr1_ex hb hS 12
 obtain ⟨xA, sA, dA⟩ := drP_ex hb hS [1, 2, 3] (by simp)
 obtain ⟨xC, sC, dC⟩ := drP_ex hb d1.2.1 [1, 2, 3] (by simp)
 have main : ∀ (R : List Int) (s' : St), ((code ≠ 0 ∨ code = 0 ∧ 1 ≤ T.length ∧ term < T.getD (((T.length : Int) - 1).toNat * 1) 0) ∧ R = [xA] ∧ s' = sA ∨ (code = 0 ∧ 1 ≤ T.length ∧ T.getD (((T.length : Int) - 1).toNat * 1) 0 ≤ term) ∧ (x1 = 0 ∧ R = [xC] ∧ s' = sC ∨ x1 ≠ 0 ∧ R = T ∧ s' = s1)) →
  CallNS Try.prog 49 (dSs l s) [aI most, aI term] [brT R] (dSs l s') := by
  intro R s' hcase
  have hTl : T.length ≤ 100 := by
   rcases hT with ⟨_, h⟩ | ⟨_, rfl⟩
   ·exact (tms_br h).len.2
   ·simp
  have hN0 := d0.2.2
  have hN1 := d1.2.2
  have hNA := dA.2.2
  have hNC := dC.2.2
  clear d0 d1 dA dC hs hb hP hS hT
  refine cN_ _ Try.func49 rfl Try.ntmps49 ?_
  repeat' (first | (guard_target =~ WpA _ _ _ _ _ _; first | refine WpA.seq ?_ | refine WpA.drawU ?_ | refine WpA.regionU ?_ | refine WpA.block ?_ | refine WpA.ret ?_ | refine WpA.skip ?_ | refine WpA.exit ?_ | refine WpA.cond_true rfl ?_ | refine WpA.cond_false rfl ?_ | refine WpA.cond_ntrue rfl ?_ | refine WpA.cond_dec rfl (fun _ => ?_) (fun _ => ?_) | refine WpA.cond_not rfl (fun _ => ?_) (fun _ => ?_) | refine WpA.cond rfl (fun _ => ?_) (fun _ => ?_)) | (guard_target =~ RunU _ _ _ _ [] _ _ _ _; first | refine RunU.nilL ?_ | refine RunU.nilD (by kernel_rfl) ?_) | (guard_target =~ RunU _ _ _ _ (Oper.mk _ (Op.call ⟨Callee.value _, _, _⟩) _ _ _ none :: _) _ _ _ _; first | refine RunU.cons (sI_ (hN0) iA (.sh .nil) (.sh lcA .nil) xR_ xR_ rfl) ?_) | (guard_target =~ RunU _ _ _ _ (Oper.mk _ _ _ _ _ none :: _) _ _ _ _; refine RunU.cons step_any ?_) | (guard_target =~ RunU _ _ _ _ (Oper.mk _ _ _ _ _ (some _) :: _) _ _ _ _; first | refine RunU.pass rfl rfl rfl rfl ?_ | refine RunU.pass_undef rfl rfl rfl ?_ | (guard_target =~ RunU _ _ _ _ (Oper.mk _ (Op.call ⟨Callee.value _, _, _⟩) _ _ _ _ :: _) _ _ _ _; first | refine RunU.doit rfl rfl (sI_ (hN0) iA (.sh .nil) (.sh lcA .nil) xR_ xR_ rfl) ?_) | refine RunU.doit rfl rfl step_any ?_ | ((fail_if_success (refine RunU.doit (rd := []) (up := []) rfl rfl ?_ ?_)); first | refine RunU.guard_dec rfl rfl (fun _ => ?_) (fun _ => ?_) | refine RunU.guard_not rfl rfl (fun _ => ?_) (fun _ => ?_) | refine RunU.guard rfl rfl (fun _ => ?_) (fun _ => ?_))) | refine Then.next ?_ | refine InBlock.next ?_ | ((first | refine DoneN.ret (.cell inferInstance rfl rfl .nil) rfl ?_ ?_ | refine DoneN.normal (.cell inferInstance rfl rfl .nil) rfl ?_ ?_) <;> try exact rfl))
  refine WpA.loop_slots (ι := Nat × List (List Int) × Int × St × Nat) (fun q => [(0, .own 0 (dSs l q.2.2.2.1)), (1, vI most), (2, vI term), (6, .own 3 (.pt true [.sl true 1 []])), (7, .own q.2.2.2.2 (.sl true 1 (LL q.2.1))), (8, vI q.2.2.1), (9, vI q.1)]) (fun q => SmGo l most q.1 q.2.1 q.2.2.1 q.2.2.2.1 P S ∧ (1 ≤ q.2.2.1 ∧ q.2.2.1 ≤ 64) ∧ q.2.1.length + q.1 ≤ 3) (fun q => q.1) ((1 + x0).toNat, [], 1, s0, _) ⟨hgo, by simp, by simp; omega⟩ ⟨rfl, rfl, rfl, rfl, xR_, rfl, int_eq (by simp; omega), trivial⟩ ?_
  clear hgo hx0 hN0
  rintro ⟨k, ps, n, t, id⟩ st nx ⟨hgo, hn, hl⟩
  simp only at hgo hn hl
  dsimp only
  match k, hgo with
  | 0, .done =>
   clear hl
   rcases hcase with ⟨hc, rfl, rfl⟩ | ⟨⟨rfl, hT1, hT2⟩, ⟨rfl, rfl, rfl⟩ | ⟨hx, rfl, rfl⟩⟩
   ·clear hN1 hNC
    rcases hc with hc | ⟨rfl, hT1, hT2⟩
    ·repeat' (first | (guard_target =~ WpA _ _ _ _ _ _; first | refine WpA.seq ?_ | refine WpA.drawU ?_ | refine WpA.regionU ?_ | refine WpA.block ?_ | refine WpA.ret ?_ | refine WpA.skip ?_ | refine WpA.exit ?_ | refine WpA.cond_true rfl ?_ | refine WpA.cond_false rfl ?_ | refine WpA.cond_ntrue rfl ?_ | refine WpA.cond_dec rfl (fun _ => ?_) (fun _ => ?_) | refine WpA.cond_not rfl (fun _ => ?_) (fun _ => ?_) | refine WpA.cond rfl (fun _ => ?_) (fun _ => ?_)) | (guard_target =~ RunU _ _ _ _ [] _ _ _ _; first | refine RunU.nilL ?_ | refine RunU.nilD (by kernel_rfl) ?_) | (guard_target =~ RunU _ _ _ _ (Oper.mk _ (Op.call ⟨Callee.value _, _, _⟩) _ _ _ none :: _) _ _ _ _; first | refine RunU.cons (sC_ (hB) (.sh .nil) (.sh wS_ .nil) rfl) ?_ | refine RunU.cons (sI_ (hNA) iA (.mv vA_ .nil) (.mv .nil) xR_ xR_ rfl) ?_) | (guard_target =~ RunU _ _ _ _ (Oper.mk _ _ _ _ _ none :: _) _ _ _ _; refine RunU.cons step_any ?_) | (guard_target =~ RunU _ _ _ _ (Oper.mk _ _ _ _ _ (some _) :: _) _ _ _ _; first | refine RunU.pass rfl rfl rfl rfl ?_ | refine RunU.pass_undef rfl rfl rfl ?_ | (guard_target =~ RunU _ _ _ _ (Oper.mk _ (Op.call ⟨Callee.value _, _, _⟩) _ _ _ _ :: _) _ _ _ _; first | refine RunU.doit rfl rfl (sC_ (hB) (.sh .nil) (.sh wS_ .nil) rfl) ?_ | refine RunU.doit rfl rfl (sI_ (hNA) iA (.mv vA_ .nil) (.mv .nil) xR_ xR_ rfl) ?_) | refine RunU.doit rfl rfl step_any ?_ | ((fail_if_success (refine RunU.doit (rd := []) (up := []) rfl rfl ?_ ?_)); first | refine RunU.guard_dec rfl rfl (fun _ => ?_) (fun _ => ?_) | refine RunU.guard_not rfl rfl (fun _ => ?_) (fun _ => ?_) | refine RunU.guard rfl rfl (fun _ => ?_) (fun _ => ?_))) | refine Then.next ?_ | refine InBlock.next ?_ | ((first | refine DoneN.ret (.cell inferInstance rfl rfl .nil) rfl ?_ ?_ | refine DoneN.normal (.cell inferInstance rfl rfl .nil) rfl ?_ ?_) <;> try exact rfl))
     all_goals first | (exfalso; omega) | rfl | (exfalso; simp_all; done)
    ·repeat' (first | (guard_target =~ WpA _ _ _ _ _ _; first | refine WpA.seq ?_ | refine WpA.drawU ?_ | refine WpA.regionU ?_ | refine WpA.block ?_ | refine WpA.ret ?_ | refine WpA.skip ?_ | refine WpA.exit ?_ | refine WpA.cond_true rfl ?_ | refine WpA.cond_false rfl ?_ | refine WpA.cond_ntrue rfl ?_ | refine WpA.cond_dec rfl (fun _ => ?_) (fun _ => ?_) | refine WpA.cond_not rfl (fun _ => ?_) (fun _ => ?_) | refine WpA.cond rfl (fun _ => ?_) (fun _ => ?_)) | (guard_target =~ RunU _ _ _ _ [] _ _ _ _; first | refine RunU.nilL ?_ | refine RunU.nilD (by kernel_rfl) ?_) | (guard_target =~ RunU _ _ _ _ (Oper.mk _ (Op.call ⟨Callee.value _, _, _⟩) _ _ _ none :: _) _ _ _ _; first | refine RunU.cons (sC_ (hB) (.sh .nil) (.sh wS_ .nil) rfl) ?_ | refine RunU.cons (sI_ (hNA) iA (.mv vA_ .nil) (.mv .nil) xR_ xR_ rfl) ?_) | (guard_target =~ RunU _ _ _ _ (Oper.mk _ _ _ _ _ none :: _) _ _ _ _; refine RunU.cons step_any ?_) | (guard_target =~ RunU _ _ _ _ (Oper.mk _ _ _ _ _ (some _) :: _) _ _ _ _; first | refine RunU.pass rfl rfl rfl rfl ?_ | refine RunU.pass_undef rfl rfl rfl ?_ | (guard_target =~ RunU _ _ _ _ (Oper.mk _ (Op.call ⟨Callee.value _, _, _⟩) _ _ _ _ :: _) _ _ _ _; first | refine RunU.doit rfl rfl (sC_ (hB) (.sh .nil) (.sh wS_ .nil) rfl) ?_ | refine RunU.doit rfl rfl (sI_ (hNA) iA (.mv vA_ .nil) (.mv .nil) xR_ xR_ rfl) ?_) | refine RunU.doit rfl rfl step_any ?_ | ((fail_if_success (refine RunU.doit (rd := []) (up := []) rfl rfl ?_ ?_)); first | refine RunU.guard_dec rfl rfl (fun _ => ?_) (fun _ => ?_) | refine RunU.guard_not rfl rfl (fun _ => ?_) (fun _ => ?_) | refine RunU.guard rfl rfl (fun _ => ?_) (fun _ => ?_))) | refine Then.next ?_ | refine InBlock.next ?_ | ((first | refine DoneN.ret (.cell inferInstance rfl rfl .nil) rfl ?_ ?_ | refine DoneN.normal (.cell inferInstance rfl rfl .nil) rfl ?_ ?_) <;> try exact rfl))
     all_goals first | (exfalso; omega) | rfl | (exfalso; simp_all; done)
   ·repeat' (first | (guard_target =~ WpA _ _ _ _ _ _; first | refine WpA.seq ?_ | refine WpA.drawU ?_ | refine WpA.regionU ?_ | refine WpA.block ?_ | refine WpA.ret ?_ | refine WpA.skip ?_ | refine WpA.exit ?_ | refine WpA.cond_true rfl ?_ | refine WpA.cond_false rfl ?_ | refine WpA.cond_ntrue rfl ?_ | refine WpA.cond_dec rfl (fun _ => ?_) (fun _ => ?_) | refine WpA.cond_not rfl (fun _ => ?_) (fun _ => ?_) | refine WpA.cond rfl (fun _ => ?_) (fun _ => ?_)) | (guard_target =~ RunU _ _ _ _ [] _ _ _ _; first | refine RunU.nilL ?_ | refine RunU.nilD (by kernel_rfl) ?_) | (guard_target =~ RunU _ _ _ _ (Oper.mk _ (Op.call ⟨Callee.value _, _, _⟩) _ _ _ none :: _) _ _ _ _; first | refine RunU.cons (sC_ (hB) (.sh .nil) (.sh wS_ .nil) rfl) ?_ | refine RunU.cons (sI_ (hN1) iA (.sh .nil) (.sh lcA .nil) xR_ xR_ rfl) ?_ | refine RunU.cons (sI_ (hNC) iA (.mv vA_ .nil) (.mv .nil) xR_ xR_ rfl) ?_) | (guard_target =~ RunU _ _ _ _ (Oper.mk _ _ _ _ _ none :: _) _ _ _ _; refine RunU.cons step_any ?_) | (guard_target =~ RunU _ _ _ _ (Oper.mk _ _ _ _ _ (some _) :: _) _ _ _ _; first | refine RunU.pass rfl rfl rfl rfl ?_ | refine RunU.pass_undef rfl rfl rfl ?_ | (guard_target =~ RunU _ _ _ _ (Oper.mk _ (Op.call ⟨Callee.value _, _, _⟩) _ _ _ _ :: _) _ _ _ _; first | refine RunU.doit rfl rfl (sC_ (hB) (.sh .nil) (.sh wS_ .nil) rfl) ?_ | refine RunU.doit rfl rfl (sI_ (hN1) iA (.sh .nil) (.sh lcA .nil) xR_ xR_ rfl) ?_ | refine RunU.doit rfl rfl (sI_ (hNC) iA (.mv vA_ .nil) (.mv .nil) xR_ xR_ rfl) ?_) | refine RunU.doit rfl rfl step_any ?_ | ((fail_if_success (refine RunU.doit (rd := []) (up := []) rfl rfl ?_ ?_)); first | refine RunU.guard_dec rfl rfl (fun _ => ?_) (fun _ => ?_) | refine RunU.guard_not rfl rfl (fun _ => ?_) (fun _ => ?_) | refine RunU.guard rfl rfl (fun _ => ?_) (fun _ => ?_))) | refine Then.next ?_ | refine InBlock.next ?_ | ((first | refine DoneN.ret (.cell inferInstance rfl rfl .nil) rfl ?_ ?_ | refine DoneN.normal (.cell inferInstance rfl rfl .nil) rfl ?_ ?_) <;> try exact rfl))
    all_goals first | (exfalso; omega) | rfl | (exfalso; simp_all; done)
   ·repeat' (first | (guard_target =~ WpA _ _ _ _ _ _; first | refine WpA.seq ?_ | refine WpA.drawU ?_ | refine WpA.regionU ?_ | refine WpA.block ?_ | refine WpA.ret ?_ | refine WpA.skip ?_ | refine WpA.exit ?_ | refine WpA.cond_true rfl ?_ | refine WpA.cond_false rfl ?_ | refine WpA.cond_ntrue rfl ?_ | refine WpA.cond_dec rfl (fun _ => ?_) (fun _ => ?_) | refine WpA.cond_not rfl (fun _ => ?_) (fun _ => ?_) | refine WpA.cond rfl (fun _ => ?_) (fun _ => ?_)) | (guard_target =~ RunU _ _ _ _ [] _ _ _ _; first | refine RunU.nilL ?_ | refine RunU.nilD (by kernel_rfl) ?_) | (guard_target =~ RunU _ _ _ _ (Oper.mk _ (Op.call ⟨Callee.value _, _, _⟩) _ _ _ none :: _) _ _ _ _; first | refine RunU.cons (sC_ (hB) (.sh .nil) (.sh wS_ .nil) rfl) ?_ | refine RunU.cons (sI_ (hN1) iA (.sh .nil) (.sh lcA .nil) xR_ xR_ rfl) ?_) | (guard_target =~ RunU _ _ _ _ (Oper.mk _ _ _ _ _ none :: _) _ _ _ _; refine RunU.cons step_any ?_) | (guard_target =~ RunU _ _ _ _ (Oper.mk _ _ _ _ _ (some _) :: _) _ _ _ _; first | refine RunU.pass rfl rfl rfl rfl ?_ | refine RunU.pass_undef rfl rfl rfl ?_ | (guard_target =~ RunU _ _ _ _ (Oper.mk _ (Op.call ⟨Callee.value _, _, _⟩) _ _ _ _ :: _) _ _ _ _; first | refine RunU.doit rfl rfl (sC_ (hB) (.sh .nil) (.sh wS_ .nil) rfl) ?_ | refine RunU.doit rfl rfl (sI_ (hN1) iA (.sh .nil) (.sh lcA .nil) xR_ xR_ rfl) ?_) | refine RunU.doit rfl rfl step_any ?_ | ((fail_if_success (refine RunU.doit (rd := []) (up := []) rfl rfl ?_ ?_)); first | refine RunU.guard_dec rfl rfl (fun _ => ?_) (fun _ => ?_) | refine RunU.guard_not rfl rfl (fun _ => ?_) (fun _ => ?_) | refine RunU.guard rfl rfl (fun _ => ?_) (fun _ => ?_))) | refine Then.next ?_ | refine InBlock.next ?_ | ((first | refine DoneN.ret (.cell inferInstance rfl rfl .nil) rfl ?_ ?_ | refine DoneN.normal (.cell inferInstance rfl rfl .nil) rfl ?_ ?_) <;> try exact rfl))
    all_goals first | (exfalso; omega) | rfl | (exfalso; simp_all; done)
  | k + 1, .skip (x := x) (s1 := t1) h1 hm r =>
   clear hcase hB hN1 hNA hNC hTl
   have hN := h1.2.2
   have hx := h1.1
   have hx0 := hx.1
   have hx4 : x ≤ 3 := by have := hx.2.2 (by omega); omega
   have b1 : 0 ≤ n * (2 + x) ∧ n * (2 + x) ≤ 64 * 5 := ⟨Int.mul_nonneg (by omega) (by omega), Int.mul_le_mul (by omega) (by omega) (by omega) (by omega)⟩
   clear h1 hx
   repeat' (first | (guard_target =~ WpA _ _ _ _ _ _; first | refine WpA.seq ?_ | refine WpA.drawU ?_ | refine WpA.regionU ?_ | refine WpA.block ?_ | refine WpA.ret ?_ | refine WpA.skip ?_ | refine WpA.exit ?_ | refine WpA.cond_true rfl ?_ | refine WpA.cond_false rfl ?_ | refine WpA.cond_ntrue rfl ?_ | refine WpA.cond_dec rfl (fun _ => ?_) (fun _ => ?_) | refine WpA.cond_not rfl (fun _ => ?_) (fun _ => ?_) | refine WpA.cond rfl (fun _ => ?_) (fun _ => ?_)) | (guard_target =~ RunU _ _ _ _ [] _ _ _ _; first | refine RunU.nilL ?_ | refine RunU.nilD (by kernel_rfl) ?_) | (guard_target =~ RunU _ _ _ _ (Oper.mk _ (Op.call ⟨Callee.value _, _, _⟩) _ _ _ none :: _) _ _ _ _; first | refine RunU.cons (sI_ (hN) iA (.sh .nil) (.sh lcA .nil) xR_ xR_ rfl) ?_) | (guard_target =~ RunU _ _ _ _ (Oper.mk _ _ _ _ _ none :: _) _ _ _ _; refine RunU.cons step_any ?_) | (guard_target =~ RunU _ _ _ _ (Oper.mk _ _ _ _ _ (some _) :: _) _ _ _ _; first | refine RunU.pass rfl rfl rfl rfl ?_ | refine RunU.pass_undef rfl rfl rfl ?_ | (guard_target =~ RunU _ _ _ _ (Oper.mk _ (Op.call ⟨Callee.value _, _, _⟩) _ _ _ _ :: _) _ _ _ _; first | refine RunU.doit rfl rfl (sI_ (hN) iA (.sh .nil) (.sh lcA .nil) xR_ xR_ rfl) ?_) | refine RunU.doit rfl rfl step_any ?_ | ((fail_if_success (refine RunU.doit (rd := []) (up := []) rfl rfl ?_ ?_)); first | refine RunU.guard_dec rfl rfl (fun _ => ?_) (fun _ => ?_) | refine RunU.guard_not rfl rfl (fun _ => ?_) (fun _ => ?_) | refine RunU.guard rfl rfl (fun _ => ?_) (fun _ => ?_))) | refine Then.next ?_ | refine InBlock.next ?_ | ((first | refine DoneN.ret (.cell inferInstance rfl rfl .nil) rfl ?_ ?_ | refine DoneN.normal (.cell inferInstance rfl rfl .nil) rfl ?_ ?_) <;> try exact rfl))
   all_goals try (exfalso; omega)
   exact ⟨(k, ps, n, t1, _), ⟨r, hn, by simp only; omega⟩, ⟨rfl, rfl, rfl, rfl, xR_, rfl, int_eq (by simp), trivial⟩, by simp only; omega⟩
  | k + 1, .more (x := x) (s1 := t1) (v := v) (s2 := t2) (y := y) (s3 := t3) h1 hm h2 h3 hy r =>
   clear hcase hB hN1 hNA hNC hTl
   have hN1 := h1.2.2
   have hN2 := h2.2.2
   have hN3 := h3.2.2
   have hx := h1.1
   have hx0 := hx.1
   have hx4 : x ≤ 3 := by have := hx.2.2 (by omega); omega
   have b1 : 0 ≤ n * (2 + x) ∧ n * (2 + x) ≤ 64 * 5 := ⟨Int.mul_nonneg (by omega) (by omega), Int.mul_le_mul (by omega) (by omega) (by omega) (by omega)⟩
   have b2 : 1 * 1 ≤ n * (2 + x) := Int.mul_le_mul (by omega) (by omega) (by omega) (by omega)
   have hc := cop_ok (own := 2 + x) (c := 1 + y) (by omega) (by omega)
   have hc2 := cop_ok (own := 2 + x) (c := cop (2 + x) (1 + y) 5 + (2 + x)) (by omega) (by omega)
   have hD := fun c (hc : 0 ≤ c ∧ c ≤ 100) => gcd_c c (2 + x) (by omega) (by omega)
   clear h1 h2 h3 hx
   by_cases hps : ps.length = 0
   ·rw [c3, if_pos hps] at r
    generalize hC1 : cop (2 + x) (1 + y) 5 = C1 at *
    generalize hC2 : cop (2 + x) (C1 + (2 + x)) 5 = C2 at *
    repeat' (first | (guard_target =~ WpA _ _ _ _ _ _; first | refine WpA.seq ?_ | refine WpA.drawU ?_ | refine WpA.regionU ?_ | refine WpA.block ?_ | refine WpA.ret ?_ | refine WpA.skip ?_ | refine WpA.exit ?_ | refine WpA.cond_true rfl ?_ | refine WpA.cond_false rfl ?_ | refine WpA.cond_ntrue rfl ?_ | refine WpA.cond_dec rfl (fun _ => ?_) (fun _ => ?_) | refine WpA.cond_not rfl (fun _ => ?_) (fun _ => ?_) | refine WpA.cond rfl (fun _ => ?_) (fun _ => ?_)) | (guard_target =~ RunU _ _ _ _ [] _ _ _ _; first | refine RunU.nilL ?_ | refine RunU.nilD (by kernel_rfl) ?_) | (guard_target =~ RunU _ _ _ _ (Oper.mk (some 23) (Op.call ⟨Callee.value _, _, _⟩) _ _ _ none :: _) _ _ _ _; first | refine RunU.cons (sI_ (hN1) iA (.sh .nil) (.sh lcA .nil) xR_ xR_ rfl) ?_) | (guard_target =~ RunU _ _ _ _ (Oper.mk (some 34) (Op.call ⟨Callee.value _, _, _⟩) _ _ _ none :: _) _ _ _ _; first | refine RunU.cons (sI_ (hN3) iA (.sh .nil) (.sh lcA .nil) xR_ xR_ rfl) ?_) | (guard_target =~ RunU _ _ _ _ (Oper.mk _ (Op.call ⟨Callee.value _, _, _⟩) _ _ _ none :: _) _ _ _ _; first | refine RunU.cons (sI_ (hN2) iA (.mv vA_ .nil) (.mv .nil) xR_ xR_ rfl) ?_) | (guard_target =~ RunU _ _ _ _ (Oper.mk _ _ _ _ _ none :: _) _ _ _ _; refine RunU.cons step_any ?_) | (guard_target =~ RunU _ _ _ _ (Oper.mk _ _ _ _ _ (some _) :: _) _ _ _ _; first | refine RunU.pass rfl rfl rfl rfl ?_ | refine RunU.pass_undef rfl rfl rfl ?_ | (guard_target =~ RunU _ _ _ _ (Oper.mk (some 23) (Op.call ⟨Callee.value _, _, _⟩) _ _ _ _ :: _) _ _ _ _; first | refine RunU.doit rfl rfl (sI_ (hN1) iA (.sh .nil) (.sh lcA .nil) xR_ xR_ rfl) ?_) | (guard_target =~ RunU _ _ _ _ (Oper.mk (some 34) (Op.call ⟨Callee.value _, _, _⟩) _ _ _ _ :: _) _ _ _ _; first | refine RunU.doit rfl rfl (sI_ (hN3) iA (.sh .nil) (.sh lcA .nil) xR_ xR_ rfl) ?_) | (guard_target =~ RunU _ _ _ _ (Oper.mk _ (Op.call ⟨Callee.value _, _, _⟩) _ _ _ _ :: _) _ _ _ _; first | refine RunU.doit rfl rfl (sI_ (hN2) iA (.mv vA_ .nil) (.mv .nil) xR_ xR_ rfl) ?_) | refine RunU.doit rfl rfl step_any ?_ | ((fail_if_success (refine RunU.doit (rd := []) (up := []) rfl rfl ?_ ?_)); first | refine RunU.guard_dec rfl rfl (fun _ => ?_) (fun _ => ?_) | refine RunU.guard_not rfl rfl (fun _ => ?_) (fun _ => ?_) | refine RunU.guard rfl rfl (fun _ => ?_) (fun _ => ?_))) | refine Then.next ?_ | refine InBlock.next ?_ | ((first | refine DoneN.ret (.cell inferInstance rfl rfl .nil) rfl ?_ ?_ | refine DoneN.normal (.cell inferInstance rfl rfl .nil) rfl ?_ ?_) <;> try exact rfl))
    all_goals try (exfalso; omega)
    refine WpA.loop_slots (ι := Int × Nat) (fun q => [(0, .own 0 (dSs l t3)), (1, vI most), (2, vI term), (6, .own 3 (.pt true [.sl true 1 []])), (7, .own id (.sl true 1 (LL ps))), (8, vI n), (9, vI ((k + 1 : Nat) : Int)), (10, vI (2 + x)), (11, vI q.1)]) (fun q => cop (2 + x) q.1 q.2 = C1 ∧ 0 ≤ q.1 ∧ q.1 + q.2 ≤ 60) (fun q => q.2) (1 + y, 5) ⟨hC1, by simp only; omega, by simp only; omega⟩ ⟨rfl, rfl, rfl, rfl, rfl, rfl, rfl, rfl, rfl, trivial⟩ ?_
    rintro ⟨c, f⟩ st nx ⟨h1, h2, h3⟩
    simp only at h1 h2 h3
    dsimp only
    have hD1 := hD c (by omega)
    match f, h1 with
    | 0, h1 =>
     have h1 : c = C1 := h1
     subst h1
     repeat' (first | (guard_target =~ WpA _ _ _ _ _ _; first | refine WpA.seq ?_ | refine WpA.drawU ?_ | refine WpA.regionU ?_ | refine WpA.block ?_ | refine WpA.ret ?_ | refine WpA.skip ?_ | refine WpA.exit ?_ | refine WpA.cond_true rfl ?_ | refine WpA.cond_false rfl ?_ | refine WpA.cond_ntrue rfl ?_ | refine WpA.cond_dec rfl (fun _ => ?_) (fun _ => ?_) | refine WpA.cond_not rfl (fun _ => ?_) (fun _ => ?_) | refine WpA.cond rfl (fun _ => ?_) (fun _ => ?_)) | (guard_target =~ RunU _ _ _ _ [] _ _ _ _; first | refine RunU.nilL ?_ | refine RunU.nilD (by kernel_rfl) ?_) | (guard_target =~ RunU _ _ _ _ (Oper.mk _ (Op.call ⟨Callee.value _, _, _⟩) _ _ _ none :: _) _ _ _ _; first | refine RunU.cons (sC_ (hD1) (.sh (.sh .nil)) (.sh wS_ (.sh wS_ .nil)) rfl) ?_) | (guard_target =~ RunU _ _ _ _ (Oper.mk _ _ _ _ _ none :: _) _ _ _ _; refine RunU.cons step_any ?_) | (guard_target =~ RunU _ _ _ _ (Oper.mk _ _ _ _ _ (some _) :: _) _ _ _ _; first | refine RunU.pass rfl rfl rfl rfl ?_ | refine RunU.pass_undef rfl rfl rfl ?_ | (guard_target =~ RunU _ _ _ _ (Oper.mk _ (Op.call ⟨Callee.value _, _, _⟩) _ _ _ _ :: _) _ _ _ _; first | refine RunU.doit rfl rfl (sC_ (hD1) (.sh (.sh .nil)) (.sh wS_ (.sh wS_ .nil)) rfl) ?_) | refine RunU.doit rfl rfl step_any ?_ | ((fail_if_success (refine RunU.doit (rd := []) (up := []) rfl rfl ?_ ?_)); first | refine RunU.guard_dec rfl rfl (fun _ => ?_) (fun _ => ?_) | refine RunU.guard_not rfl rfl (fun _ => ?_) (fun _ => ?_) | refine RunU.guard rfl rfl (fun _ => ?_) (fun _ => ?_))) | refine Then.next ?_ | refine InBlock.next ?_ | ((first | refine DoneN.ret (.cell inferInstance rfl rfl .nil) rfl ?_ ?_ | refine DoneN.normal (.cell inferInstance rfl rfl .nil) rfl ?_ ?_) <;> try exact rfl))
     all_goals try (exfalso; omega)
     refine WpA.loop_slots (ι := Int × Nat) (fun q => [(0, .own 0 (dSs l t3)), (1, vI most), (2, vI term), (6, .own 3 (.pt true [.sl true 1 []])), (7, .own id (.sl true 1 (LL ps))), (8, vI n), (9, vI ((k + 1 : Nat) : Int)), (10, vI (2 + x)), (11, vI q.1)]) (fun q => cop (2 + x) q.1 q.2 = C2 ∧ 0 ≤ q.1 ∧ q.1 + q.2 ≤ 60) (fun q => q.2) (c + (2 + x), 5) ⟨hC2, by simp only; omega, by simp only; omega⟩ ⟨rfl, rfl, rfl, rfl, rfl, rfl, rfl, rfl, rfl, trivial⟩ ?_
     rintro ⟨c, f⟩ st nx ⟨h1, h2, h3⟩
     simp only at h1 h2 h3
     dsimp only
     have hD := hD c (by omega)
     match f, h1 with
     | 0, h1 =>
      have h1 : c = C2 := h1
      subst h1
      repeat' (first | (guard_target =~ WpA _ _ _ _ _ _; first | refine WpA.seq ?_ | refine WpA.drawU ?_ | refine WpA.regionU ?_ | refine WpA.block ?_ | refine WpA.ret ?_ | refine WpA.skip ?_ | refine WpA.exit ?_ | refine WpA.cond_true rfl ?_ | refine WpA.cond_false rfl ?_ | refine WpA.cond_ntrue rfl ?_ | refine WpA.cond_dec rfl (fun _ => ?_) (fun _ => ?_) | refine WpA.cond_not rfl (fun _ => ?_) (fun _ => ?_) | refine WpA.cond rfl (fun _ => ?_) (fun _ => ?_)) | (guard_target =~ RunU _ _ _ _ [] _ _ _ _; first | refine RunU.nilL ?_ | refine RunU.nilD (by kernel_rfl) ?_) | (guard_target =~ RunU _ _ _ _ (Oper.mk _ (Op.call ⟨Callee.value _, _, _⟩) _ _ _ none :: _) _ _ _ _; first | refine RunU.cons (sC_ (hD) (.sh (.sh .nil)) (.sh wS_ (.sh wS_ .nil)) rfl) ?_) | (guard_target =~ RunU _ _ _ _ (Oper.mk _ _ _ _ _ none :: _) _ _ _ _; refine RunU.cons step_any ?_) | (guard_target =~ RunU _ _ _ _ (Oper.mk _ _ _ _ _ (some _) :: _) _ _ _ _; first | refine RunU.pass rfl rfl rfl rfl ?_ | refine RunU.pass_undef rfl rfl rfl ?_ | (guard_target =~ RunU _ _ _ _ (Oper.mk _ (Op.call ⟨Callee.value _, _, _⟩) _ _ _ _ :: _) _ _ _ _; first | refine RunU.doit rfl rfl (sC_ (hD) (.sh (.sh .nil)) (.sh wS_ (.sh wS_ .nil)) rfl) ?_) | refine RunU.doit rfl rfl step_any ?_ | ((fail_if_success (refine RunU.doit (rd := []) (up := []) rfl rfl ?_ ?_)); first | refine RunU.guard_dec rfl rfl (fun _ => ?_) (fun _ => ?_) | refine RunU.guard_not rfl rfl (fun _ => ?_) (fun _ => ?_) | refine RunU.guard rfl rfl (fun _ => ?_) (fun _ => ?_))) | refine Then.next ?_ | refine InBlock.next ?_ | ((first | refine DoneN.ret (.cell inferInstance rfl rfl .nil) rfl ?_ ?_ | refine DoneN.normal (.cell inferInstance rfl rfl .nil) rfl ?_ ?_) <;> try exact rfl))
      all_goals try (exfalso; omega)
      exact ⟨(k, ps ++ [[c, 2 + x]], n * (2 + x), t3, _), ⟨r, by simp only; omega, by simp; omega⟩, ⟨rfl, rfl, rfl, rfl, by exact own_LL rfl, rfl, int_eq (by simp), trivial⟩, by simp only; omega⟩
     | f + 1, h1 =>
      rw [cop] at h1
      by_cases hg : 1 < (Int.gcd c (2 + x) : Int)
      ·rw [if_pos hg] at h1
       repeat' (first | (guard_target =~ WpA _ _ _ _ _ _; first | refine WpA.seq ?_ | refine WpA.drawU ?_ | refine WpA.regionU ?_ | refine WpA.block ?_ | refine WpA.ret ?_ | refine WpA.skip ?_ | refine WpA.exit ?_ | refine WpA.cond_true rfl ?_ | refine WpA.cond_false rfl ?_ | refine WpA.cond_ntrue rfl ?_ | refine WpA.cond_dec rfl (fun _ => ?_) (fun _ => ?_) | refine WpA.cond_not rfl (fun _ => ?_) (fun _ => ?_) | refine WpA.cond rfl (fun _ => ?_) (fun _ => ?_)) | (guard_target =~ RunU _ _ _ _ [] _ _ _ _; first | refine RunU.nilL ?_ | refine RunU.nilD (by kernel_rfl) ?_) | (guard_target =~ RunU _ _ _ _ (Oper.mk _ (Op.call ⟨Callee.value _, _, _⟩) _ _ _ none :: _) _ _ _ _; first | refine RunU.cons (sC_ (hD) (.sh (.sh .nil)) (.sh wS_ (.sh wS_ .nil)) rfl) ?_) | (guard_target =~ RunU _ _ _ _ (Oper.mk _ _ _ _ _ none :: _) _ _ _ _; refine RunU.cons step_any ?_) | (guard_target =~ RunU _ _ _ _ (Oper.mk _ _ _ _ _ (some _) :: _) _ _ _ _; first | refine RunU.pass rfl rfl rfl rfl ?_ | refine RunU.pass_undef rfl rfl rfl ?_ | (guard_target =~ RunU _ _ _ _ (Oper.mk _ (Op.call ⟨Callee.value _, _, _⟩) _ _ _ _ :: _) _ _ _ _; first | refine RunU.doit rfl rfl (sC_ (hD) (.sh (.sh .nil)) (.sh wS_ (.sh wS_ .nil)) rfl) ?_) | refine RunU.doit rfl rfl step_any ?_ | ((fail_if_success (refine RunU.doit (rd := []) (up := []) rfl rfl ?_ ?_)); first | refine RunU.guard_dec rfl rfl (fun _ => ?_) (fun _ => ?_) | refine RunU.guard_not rfl rfl (fun _ => ?_) (fun _ => ?_) | refine RunU.guard rfl rfl (fun _ => ?_) (fun _ => ?_))) | refine Then.next ?_ | refine InBlock.next ?_ | ((first | refine DoneN.ret (.cell inferInstance rfl rfl .nil) rfl ?_ ?_ | refine DoneN.normal (.cell inferInstance rfl rfl .nil) rfl ?_ ?_) <;> try exact rfl))
       all_goals try (exfalso; omega)
       exact ⟨(c + 1, f), ⟨h1, by simp only; omega, by simp only; omega⟩, ⟨rfl, rfl, rfl, rfl, rfl, rfl, rfl, rfl, rfl, trivial⟩, by simp only; omega⟩
      ·rw [if_neg hg] at h1
       subst h1
       repeat' (first | (guard_target =~ WpA _ _ _ _ _ _; first | refine WpA.seq ?_ | refine WpA.drawU ?_ | refine WpA.regionU ?_ | refine WpA.block ?_ | refine WpA.ret ?_ | refine WpA.skip ?_ | refine WpA.exit ?_ | refine WpA.cond_true rfl ?_ | refine WpA.cond_false rfl ?_ | refine WpA.cond_ntrue rfl ?_ | refine WpA.cond_dec rfl (fun _ => ?_) (fun _ => ?_) | refine WpA.cond_not rfl (fun _ => ?_) (fun _ => ?_) | refine WpA.cond rfl (fun _ => ?_) (fun _ => ?_)) | (guard_target =~ RunU _ _ _ _ [] _ _ _ _; first | refine RunU.nilL ?_ | refine RunU.nilD (by kernel_rfl) ?_) | (guard_target =~ RunU _ _ _ _ (Oper.mk _ (Op.call ⟨Callee.value _, _, _⟩) _ _ _ none :: _) _ _ _ _; first | refine RunU.cons (sC_ (hD) (.sh (.sh .nil)) (.sh wS_ (.sh wS_ .nil)) rfl) ?_) | (guard_target =~ RunU _ _ _ _ (Oper.mk _ _ _ _ _ none :: _) _ _ _ _; refine RunU.cons step_any ?_) | (guard_target =~ RunU _ _ _ _ (Oper.mk _ _ _ _ _ (some _) :: _) _ _ _ _; first | refine RunU.pass rfl rfl rfl rfl ?_ | refine RunU.pass_undef rfl rfl rfl ?_ | (guard_target =~ RunU _ _ _ _ (Oper.mk _ (Op.call ⟨Callee.value _, _, _⟩) _ _ _ _ :: _) _ _ _ _; first | refine RunU.doit rfl rfl (sC_ (hD) (.sh (.sh .nil)) (.sh wS_ (.sh wS_ .nil)) rfl) ?_) | refine RunU.doit rfl rfl step_any ?_ | ((fail_if_success (refine RunU.doit (rd := []) (up := []) rfl rfl ?_ ?_)); first | refine RunU.guard_dec rfl rfl (fun _ => ?_) (fun _ => ?_) | refine RunU.guard_not rfl rfl (fun _ => ?_) (fun _ => ?_) | refine RunU.guard rfl rfl (fun _ => ?_) (fun _ => ?_))) | refine Then.next ?_ | refine InBlock.next ?_ | ((first | refine DoneN.ret (.cell inferInstance rfl rfl .nil) rfl ?_ ?_ | refine DoneN.normal (.cell inferInstance rfl rfl .nil) rfl ?_ ?_) <;> try exact rfl))
       all_goals try (exfalso; omega)
       exact ⟨(k, ps ++ [[c, 2 + x]], n * (2 + x), t3, _), ⟨r, by simp only; omega, by simp; omega⟩, ⟨rfl, rfl, rfl, rfl, by exact own_LL rfl, rfl, int_eq (by simp), trivial⟩, by simp only; omega⟩
    | f + 1, h1 =>
     rw [cop] at h1
     by_cases hg : 1 < (Int.gcd c (2 + x) : Int)
     ·rw [if_pos hg] at h1
      repeat' (first | (guard_target =~ WpA _ _ _ _ _ _; first | refine WpA.seq ?_ | refine WpA.drawU ?_ | refine WpA.regionU ?_ | refine WpA.block ?_ | refine WpA.ret ?_ | refine WpA.skip ?_ | refine WpA.exit ?_ | refine WpA.cond_true rfl ?_ | refine WpA.cond_false rfl ?_ | refine WpA.cond_ntrue rfl ?_ | refine WpA.cond_dec rfl (fun _ => ?_) (fun _ => ?_) | refine WpA.cond_not rfl (fun _ => ?_) (fun _ => ?_) | refine WpA.cond rfl (fun _ => ?_) (fun _ => ?_)) | (guard_target =~ RunU _ _ _ _ [] _ _ _ _; first | refine RunU.nilL ?_ | refine RunU.nilD (by kernel_rfl) ?_) | (guard_target =~ RunU _ _ _ _ (Oper.mk _ (Op.call ⟨Callee.value _, _, _⟩) _ _ _ none :: _) _ _ _ _; first | refine RunU.cons (sC_ (hD1) (.sh (.sh .nil)) (.sh wS_ (.sh wS_ .nil)) rfl) ?_) | (guard_target =~ RunU _ _ _ _ (Oper.mk _ _ _ _ _ none :: _) _ _ _ _; refine RunU.cons step_any ?_) | (guard_target =~ RunU _ _ _ _ (Oper.mk _ _ _ _ _ (some _) :: _) _ _ _ _; first | refine RunU.pass rfl rfl rfl rfl ?_ | refine RunU.pass_undef rfl rfl rfl ?_ | (guard_target =~ RunU _ _ _ _ (Oper.mk _ (Op.call ⟨Callee.value _, _, _⟩) _ _ _ _ :: _) _ _ _ _; first | refine RunU.doit rfl rfl (sC_ (hD1) (.sh (.sh .nil)) (.sh wS_ (.sh wS_ .nil)) rfl) ?_) | refine RunU.doit rfl rfl step_any ?_ | ((fail_if_success (refine RunU.doit (rd := []) (up := []) rfl rfl ?_ ?_)); first | refine RunU.guard_dec rfl rfl (fun _ => ?_) (fun _ => ?_) | refine RunU.guard_not rfl rfl (fun _ => ?_) (fun _ => ?_) | refine RunU.guard rfl rfl (fun _ => ?_) (fun _ => ?_))) | refine Then.next ?_ | refine InBlock.next ?_ | ((first | refine DoneN.ret (.cell inferInstance rfl rfl .nil) rfl ?_ ?_ | refine DoneN.normal (.cell inferInstance rfl rfl .nil) rfl ?_ ?_) <;> try exact rfl))
      all_goals try (exfalso; omega)
      exact ⟨(c + 1, f), ⟨h1, by simp only; omega, by simp only; omega⟩, ⟨rfl, rfl, rfl, rfl, rfl, rfl, rfl, rfl, rfl, trivial⟩, by simp only; omega⟩
     ·rw [if_neg hg] at h1
      subst h1
      repeat' (first | (guard_target =~ WpA _ _ _ _ _ _; first | refine WpA.seq ?_ | refine WpA.drawU ?_ | refine WpA.regionU ?_ | refine WpA.block ?_ | refine WpA.ret ?_ | refine WpA.skip ?_ | refine WpA.exit ?_ | refine WpA.cond_true rfl ?_ | refine WpA.cond_false rfl ?_ | refine WpA.cond_ntrue rfl ?_ | refine WpA.cond_dec rfl (fun _ => ?_) (fun _ => ?_) | refine WpA.cond_not rfl (fun _ => ?_) (fun _ => ?_) | refine WpA.cond rfl (fun _ => ?_) (fun _ => ?_)) | (guard_target =~ RunU _ _ _ _ [] _ _ _ _; first | refine RunU.nilL ?_ | refine RunU.nilD (by kernel_rfl) ?_) | (guard_target =~ RunU _ _ _ _ (Oper.mk _ (Op.call ⟨Callee.value _, _, _⟩) _ _ _ none :: _) _ _ _ _; first | refine RunU.cons (sC_ (hD1) (.sh (.sh .nil)) (.sh wS_ (.sh wS_ .nil)) rfl) ?_) | (guard_target =~ RunU _ _ _ _ (Oper.mk _ _ _ _ _ none :: _) _ _ _ _; refine RunU.cons step_any ?_) | (guard_target =~ RunU _ _ _ _ (Oper.mk _ _ _ _ _ (some _) :: _) _ _ _ _; first | refine RunU.pass rfl rfl rfl rfl ?_ | refine RunU.pass_undef rfl rfl rfl ?_ | (guard_target =~ RunU _ _ _ _ (Oper.mk _ (Op.call ⟨Callee.value _, _, _⟩) _ _ _ _ :: _) _ _ _ _; first | refine RunU.doit rfl rfl (sC_ (hD1) (.sh (.sh .nil)) (.sh wS_ (.sh wS_ .nil)) rfl) ?_) | refine RunU.doit rfl rfl step_any ?_ | ((fail_if_success (refine RunU.doit (rd := []) (up := []) rfl rfl ?_ ?_)); first | refine RunU.guard_dec rfl rfl (fun _ => ?_) (fun _ => ?_) | refine RunU.guard_not rfl rfl (fun _ => ?_) (fun _ => ?_) | refine RunU.guard rfl rfl (fun _ => ?_) (fun _ => ?_))) | refine Then.next ?_ | refine InBlock.next ?_ | ((first | refine DoneN.ret (.cell inferInstance rfl rfl .nil) rfl ?_ ?_ | refine DoneN.normal (.cell inferInstance rfl rfl .nil) rfl ?_ ?_) <;> try exact rfl))
      all_goals try (exfalso; omega)
      refine WpA.loop_slots (ι := Int × Nat) (fun q => [(0, .own 0 (dSs l t3)), (1, vI most), (2, vI term), (6, .own 3 (.pt true [.sl true 1 []])), (7, .own id (.sl true 1 (LL ps))), (8, vI n), (9, vI ((k + 1 : Nat) : Int)), (10, vI (2 + x)), (11, vI q.1)]) (fun q => cop (2 + x) q.1 q.2 = C2 ∧ 0 ≤ q.1 ∧ q.1 + q.2 ≤ 60) (fun q => q.2) (c + (2 + x), 5) ⟨hC2, by simp only; omega, by simp only; omega⟩ ⟨rfl, rfl, rfl, rfl, rfl, rfl, rfl, rfl, rfl, trivial⟩ ?_
      rintro ⟨c, f⟩ st nx ⟨h1, h2, h3⟩
      simp only at h1 h2 h3
      dsimp only
      have hD := hD c (by omega)
      match f, h1 with
      | 0, h1 =>
       have h1 : c = C2 := h1
       subst h1
       repeat' (first | (guard_target =~ WpA _ _ _ _ _ _; first | refine WpA.seq ?_ | refine WpA.drawU ?_ | refine WpA.regionU ?_ | refine WpA.block ?_ | refine WpA.ret ?_ | refine WpA.skip ?_ | refine WpA.exit ?_ | refine WpA.cond_true rfl ?_ | refine WpA.cond_false rfl ?_ | refine WpA.cond_ntrue rfl ?_ | refine WpA.cond_dec rfl (fun _ => ?_) (fun _ => ?_) | refine WpA.cond_not rfl (fun _ => ?_) (fun _ => ?_) | refine WpA.cond rfl (fun _ => ?_) (fun _ => ?_)) | (guard_target =~ RunU _ _ _ _ [] _ _ _ _; first | refine RunU.nilL ?_ | refine RunU.nilD (by kernel_rfl) ?_) | (guard_target =~ RunU _ _ _ _ (Oper.mk _ (Op.call ⟨Callee.value _, _, _⟩) _ _ _ none :: _) _ _ _ _; first | refine RunU.cons (sC_ (hD) (.sh (.sh .nil)) (.sh wS_ (.sh wS_ .nil)) rfl) ?_) | (guard_target =~ RunU _ _ _ _ (Oper.mk _ _ _ _ _ none :: _) _ _ _ _; refine RunU.cons step_any ?_) | (guard_target =~ RunU _ _ _ _ (Oper.mk _ _ _ _ _ (some _) :: _) _ _ _ _; first | refine RunU.pass rfl rfl rfl rfl ?_ | refine RunU.pass_undef rfl rfl rfl ?_ | (guard_target =~ RunU _ _ _ _ (Oper.mk _ (Op.call ⟨Callee.value _, _, _⟩) _ _ _ _ :: _) _ _ _ _; first | refine RunU.doit rfl rfl (sC_ (hD) (.sh (.sh .nil)) (.sh wS_ (.sh wS_ .nil)) rfl) ?_) | refine RunU.doit rfl rfl step_any ?_ | ((fail_if_success (refine RunU.doit (rd := []) (up := []) rfl rfl ?_ ?_)); first | refine RunU.guard_dec rfl rfl (fun _ => ?_) (fun _ => ?_) | refine RunU.guard_not rfl rfl (fun _ => ?_) (fun _ => ?_) | refine RunU.guard rfl rfl (fun _ => ?_) (fun _ => ?_))) | refine Then.next ?_ | refine InBlock.next ?_ | ((first | refine DoneN.ret (.cell inferInstance rfl rfl .nil) rfl ?_ ?_ | refine DoneN.normal (.cell inferInstance rfl rfl .nil) rfl ?_ ?_) <;> try exact rfl))
       all_goals try (exfalso; omega)
       exact ⟨(k, ps ++ [[c, 2 + x]], n * (2 + x), t3, _), ⟨r, by simp only; omega, by simp; omega⟩, ⟨rfl, rfl, rfl, rfl, by exact own_LL rfl, rfl, int_eq (by simp), trivial⟩, by simp only; omega⟩
      | f + 1, h1 =>
       rw [cop] at h1
       by_cases hg : 1 < (Int.gcd c (2 + x) : Int)
       ·rw [if_pos hg] at h1
        repeat' (first | (guard_target =~ WpA _ _ _ _ _ _; first | refine WpA.seq ?_ | refine WpA.drawU ?_ | refine WpA.regionU ?_ | refine WpA.block ?_ | refine WpA.ret ?_ | refine WpA.skip ?_ | refine WpA.exit ?_ | refine WpA.cond_true rfl ?_ | refine WpA.cond_false rfl ?_ | refine WpA.cond_ntrue rfl ?_ | refine WpA.cond_dec rfl (fun _ => ?_) (fun _ => ?_) | refine WpA.cond_not rfl (fun _ => ?_) (fun _ => ?_) | refine WpA.cond rfl (fun _ => ?_) (fun _ => ?_)) | (guard_target =~ RunU _ _ _ _ [] _ _ _ _; first | refine RunU.nilL ?_ | refine RunU.nilD (by kernel_rfl) ?_) | (guard_target =~ RunU _ _ _ _ (Oper.mk _ (Op.call ⟨Callee.value _, _, _⟩) _ _ _ none :: _) _ _ _ _; first | refine RunU.cons (sC_ (hD) (.sh (.sh .nil)) (.sh wS_ (.sh wS_ .nil)) rfl) ?_) | (guard_target =~ RunU _ _ _ _ (Oper.mk _ _ _ _ _ none :: _) _ _ _ _; refine RunU.cons step_any ?_) | (guard_target =~ RunU _ _ _ _ (Oper.mk _ _ _ _ _ (some _) :: _) _ _ _ _; first | refine RunU.pass rfl rfl rfl rfl ?_ | refine RunU.pass_undef rfl rfl rfl ?_ | (guard_target =~ RunU _ _ _ _ (Oper.mk _ (Op.call ⟨Callee.value _, _, _⟩) _ _ _ _ :: _) _ _ _ _; first | refine RunU.doit rfl rfl (sC_ (hD) (.sh (.sh .nil)) (.sh wS_ (.sh wS_ .nil)) rfl) ?_) | refine RunU.doit rfl rfl step_any ?_ | ((fail_if_success (refine RunU.doit (rd := []) (up := []) rfl rfl ?_ ?_)); first | refine RunU.guard_dec rfl rfl (fun _ => ?_) (fun _ => ?_) | refine RunU.guard_not rfl rfl (fun _ => ?_) (fun _ => ?_) | refine RunU.guard rfl rfl (fun _ => ?_) (fun _ => ?_))) | refine Then.next ?_ | refine InBlock.next ?_ | ((first | refine DoneN.ret (.cell inferInstance rfl rfl .nil) rfl ?_ ?_ | refine DoneN.normal (.cell inferInstance rfl rfl .nil) rfl ?_ ?_) <;> try exact rfl))
        all_goals try (exfalso; omega)
        exact ⟨(c + 1, f), ⟨h1, by simp only; omega, by simp only; omega⟩, ⟨rfl, rfl, rfl, rfl, rfl, rfl, rfl, rfl, rfl, trivial⟩, by simp only; omega⟩
       ·rw [if_neg hg] at h1
        subst h1
        repeat' (first | (guard_target =~ WpA _ _ _ _ _ _; first | refine WpA.seq ?_ | refine WpA.drawU ?_ | refine WpA.regionU ?_ | refine WpA.block ?_ | refine WpA.ret ?_ | refine WpA.skip ?_ | refine WpA.exit ?_ | refine WpA.cond_true rfl ?_ | refine WpA.cond_false rfl ?_ | refine WpA.cond_ntrue rfl ?_ | refine WpA.cond_dec rfl (fun _ => ?_) (fun _ => ?_) | refine WpA.cond_not rfl (fun _ => ?_) (fun _ => ?_) | refine WpA.cond rfl (fun _ => ?_) (fun _ => ?_)) | (guard_target =~ RunU _ _ _ _ [] _ _ _ _; first | refine RunU.nilL ?_ | refine RunU.nilD (by kernel_rfl) ?_) | (guard_target =~ RunU _ _ _ _ (Oper.mk _ (Op.call ⟨Callee.value _, _, _⟩) _ _ _ none :: _) _ _ _ _; first | refine RunU.cons (sC_ (hD) (.sh (.sh .nil)) (.sh wS_ (.sh wS_ .nil)) rfl) ?_) | (guard_target =~ RunU _ _ _ _ (Oper.mk _ _ _ _ _ none :: _) _ _ _ _; refine RunU.cons step_any ?_) | (guard_target =~ RunU _ _ _ _ (Oper.mk _ _ _ _ _ (some _) :: _) _ _ _ _; first | refine RunU.pass rfl rfl rfl rfl ?_ | refine RunU.pass_undef rfl rfl rfl ?_ | (guard_target =~ RunU _ _ _ _ (Oper.mk _ (Op.call ⟨Callee.value _, _, _⟩) _ _ _ _ :: _) _ _ _ _; first | refine RunU.doit rfl rfl (sC_ (hD) (.sh (.sh .nil)) (.sh wS_ (.sh wS_ .nil)) rfl) ?_) | refine RunU.doit rfl rfl step_any ?_ | ((fail_if_success (refine RunU.doit (rd := []) (up := []) rfl rfl ?_ ?_)); first | refine RunU.guard_dec rfl rfl (fun _ => ?_) (fun _ => ?_) | refine RunU.guard_not rfl rfl (fun _ => ?_) (fun _ => ?_) | refine RunU.guard rfl rfl (fun _ => ?_) (fun _ => ?_))) | refine Then.next ?_ | refine InBlock.next ?_ | ((first | refine DoneN.ret (.cell inferInstance rfl rfl .nil) rfl ?_ ?_ | refine DoneN.normal (.cell inferInstance rfl rfl .nil) rfl ?_ ?_) <;> try exact rfl))
        all_goals try (exfalso; omega)
        exact ⟨(k, ps ++ [[c, 2 + x]], n * (2 + x), t3, _), ⟨r, by simp only; omega, by simp; omega⟩, ⟨rfl, rfl, rfl, rfl, by exact own_LL rfl, rfl, int_eq (by simp), trivial⟩, by simp only; omega⟩
   ·rw [c3, if_neg hps] at r
    generalize hC1 : cop (2 + x) (1 + y) 5 = C1 at *
    clear hc2
    repeat' (first | (guard_target =~ WpA _ _ _ _ _ _; first | refine WpA.seq ?_ | refine WpA.drawU ?_ | refine WpA.regionU ?_ | refine WpA.block ?_ | refine WpA.ret ?_ | refine WpA.skip ?_ | refine WpA.exit ?_ | refine WpA.cond_true rfl ?_ | refine WpA.cond_false rfl ?_ | refine WpA.cond_ntrue rfl ?_ | refine WpA.cond_dec rfl (fun _ => ?_) (fun _ => ?_) | refine WpA.cond_not rfl (fun _ => ?_) (fun _ => ?_) | refine WpA.cond rfl (fun _ => ?_) (fun _ => ?_)) | (guard_target =~ RunU _ _ _ _ [] _ _ _ _; first | refine RunU.nilL ?_ | refine RunU.nilD (by kernel_rfl) ?_) | (guard_target =~ RunU _ _ _ _ (Oper.mk (some 23) (Op.call ⟨Callee.value _, _, _⟩) _ _ _ none :: _) _ _ _ _; first | refine RunU.cons (sI_ (hN1) iA (.sh .nil) (.sh lcA .nil) xR_ xR_ rfl) ?_) | (guard_target =~ RunU _ _ _ _ (Oper.mk (some 34) (Op.call ⟨Callee.value _, _, _⟩) _ _ _ none :: _) _ _ _ _; first | refine RunU.cons (sI_ (hN3) iA (.sh .nil) (.sh lcA .nil) xR_ xR_ rfl) ?_) | (guard_target =~ RunU _ _ _ _ (Oper.mk _ (Op.call ⟨Callee.value _, _, _⟩) _ _ _ none :: _) _ _ _ _; first | refine RunU.cons (sI_ (hN2) iA (.mv vA_ .nil) (.mv .nil) xR_ xR_ rfl) ?_) | (guard_target =~ RunU _ _ _ _ (Oper.mk _ _ _ _ _ none :: _) _ _ _ _; refine RunU.cons step_any ?_) | (guard_target =~ RunU _ _ _ _ (Oper.mk _ _ _ _ _ (some _) :: _) _ _ _ _; first | refine RunU.pass rfl rfl rfl rfl ?_ | refine RunU.pass_undef rfl rfl rfl ?_ | (guard_target =~ RunU _ _ _ _ (Oper.mk (some 23) (Op.call ⟨Callee.value _, _, _⟩) _ _ _ _ :: _) _ _ _ _; first | refine RunU.doit rfl rfl (sI_ (hN1) iA (.sh .nil) (.sh lcA .nil) xR_ xR_ rfl) ?_) | (guard_target =~ RunU _ _ _ _ (Oper.mk (some 34) (Op.call ⟨Callee.value _, _, _⟩) _ _ _ _ :: _) _ _ _ _; first | refine RunU.doit rfl rfl (sI_ (hN3) iA (.sh .nil) (.sh lcA .nil) xR_ xR_ rfl) ?_) | (guard_target =~ RunU _ _ _ _ (Oper.mk _ (Op.call ⟨Callee.value _, _, _⟩) _ _ _ _ :: _) _ _ _ _; first | refine RunU.doit rfl rfl (sI_ (hN2) iA (.mv vA_ .nil) (.mv .nil) xR_ xR_ rfl) ?_) | refine RunU.doit rfl rfl step_any ?_ | ((fail_if_success (refine RunU.doit (rd := []) (up := []) rfl rfl ?_ ?_)); first | refine RunU.guard_dec rfl rfl (fun _ => ?_) (fun _ => ?_) | refine RunU.guard_not rfl rfl (fun _ => ?_) (fun _ => ?_) | refine RunU.guard rfl rfl (fun _ => ?_) (fun _ => ?_))) | refine Then.next ?_ | refine InBlock.next ?_ | ((first | refine DoneN.ret (.cell inferInstance rfl rfl .nil) rfl ?_ ?_ | refine DoneN.normal (.cell inferInstance rfl rfl .nil) rfl ?_ ?_) <;> try exact rfl))
    all_goals try (exfalso; omega)
    refine WpA.loop_slots (ι := Int × Nat) (fun q => [(0, .own 0 (dSs l t3)), (1, vI most), (2, vI term), (6, .own 3 (.pt true [.sl true 1 []])), (7, .own id (.sl true 1 (LL ps))), (8, vI n), (9, vI ((k + 1 : Nat) : Int)), (10, vI (2 + x)), (11, vI q.1)]) (fun q => cop (2 + x) q.1 q.2 = C1 ∧ 0 ≤ q.1 ∧ q.1 + q.2 ≤ 60) (fun q => q.2) (1 + y, 5) ⟨hC1, by simp only; omega, by simp only; omega⟩ ⟨rfl, rfl, rfl, rfl, rfl, rfl, rfl, rfl, rfl, trivial⟩ ?_
    rintro ⟨c, f⟩ st nx ⟨h1, h2, h3⟩
    simp only at h1 h2 h3
    dsimp only
    have hD1 := hD c (by omega)
    match f, h1 with
    | 0, h1 =>
     have h1 : c = C1 := h1
     subst h1
     repeat' (first | (guard_target =~ WpA _ _ _ _ _ _; first | refine WpA.seq ?_ | refine WpA.drawU ?_ | refine WpA.regionU ?_ | refine WpA.block ?_ | refine WpA.ret ?_ | refine WpA.skip ?_ | refine WpA.exit ?_ | refine WpA.cond_true rfl ?_ | refine WpA.cond_false rfl ?_ | refine WpA.cond_ntrue rfl ?_ | refine WpA.cond_dec rfl (fun _ => ?_) (fun _ => ?_) | refine WpA.cond_not rfl (fun _ => ?_) (fun _ => ?_) | refine WpA.cond rfl (fun _ => ?_) (fun _ => ?_)) | (guard_target =~ RunU _ _ _ _ [] _ _ _ _; first | refine RunU.nilL ?_ | refine RunU.nilD (by kernel_rfl) ?_) | (guard_target =~ RunU _ _ _ _ (Oper.mk _ (Op.call ⟨Callee.value _, _, _⟩) _ _ _ none :: _) _ _ _ _; first | refine RunU.cons (sC_ (hD1) (.sh (.sh .nil)) (.sh wS_ (.sh wS_ .nil)) rfl) ?_) | (guard_target =~ RunU _ _ _ _ (Oper.mk _ _ _ _ _ none :: _) _ _ _ _; refine RunU.cons step_any ?_) | (guard_target =~ RunU _ _ _ _ (Oper.mk _ _ _ _ _ (some _) :: _) _ _ _ _; first | refine RunU.pass rfl rfl rfl rfl ?_ | refine RunU.pass_undef rfl rfl rfl ?_ | (guard_target =~ RunU _ _ _ _ (Oper.mk _ (Op.call ⟨Callee.value _, _, _⟩) _ _ _ _ :: _) _ _ _ _; first | refine RunU.doit rfl rfl (sC_ (hD1) (.sh (.sh .nil)) (.sh wS_ (.sh wS_ .nil)) rfl) ?_) | refine RunU.doit rfl rfl step_any ?_ | ((fail_if_success (refine RunU.doit (rd := []) (up := []) rfl rfl ?_ ?_)); first | refine RunU.guard_dec rfl rfl (fun _ => ?_) (fun _ => ?_) | refine RunU.guard_not rfl rfl (fun _ => ?_) (fun _ => ?_) | refine RunU.guard rfl rfl (fun _ => ?_) (fun _ => ?_))) | refine Then.next ?_ | refine InBlock.next ?_ | ((first | refine DoneN.ret (.cell inferInstance rfl rfl .nil) rfl ?_ ?_ | refine DoneN.normal (.cell inferInstance rfl rfl .nil) rfl ?_ ?_) <;> try exact rfl))
     all_goals try (exfalso; omega)
     exact ⟨(k, ps ++ [[c, 2 + x]], n * (2 + x), t3, _), ⟨r, by simp only; omega, by simp; omega⟩, ⟨rfl, rfl, rfl, rfl, by exact own_LL rfl, rfl, int_eq (by simp), trivial⟩, by simp only; omega⟩
    | f + 1, h1 =>
     rw [cop] at h1
     by_cases hg : 1 < (Int.gcd c (2 + x) : Int)
     ·rw [if_pos hg] at h1
      repeat' (first | (guard_target =~ WpA _ _ _ _ _ _; first | refine WpA.seq ?_ | refine WpA.drawU ?_ | refine WpA.regionU ?_ | refine WpA.block ?_ | refine WpA.ret ?_ | refine WpA.skip ?_ | refine WpA.exit ?_ | refine WpA.cond_true rfl ?_ | refine WpA.cond_false rfl ?_ | refine WpA.cond_ntrue rfl ?_ | refine WpA.cond_dec rfl (fun _ => ?_) (fun _ => ?_) | refine WpA.cond_not rfl (fun _ => ?_) (fun _ => ?_) | refine WpA.cond rfl (fun _ => ?_) (fun _ => ?_)) | (guard_target =~ RunU _ _ _ _ [] _ _ _ _; first | refine RunU.nilL ?_ | refine RunU.nilD (by kernel_rfl) ?_) | (guard_target =~ RunU _ _ _ _ (Oper.mk _ (Op.call ⟨Callee.value _, _, _⟩) _ _ _ none :: _) _ _ _ _; first | refine RunU.cons (sC_ (hD1) (.sh (.sh .nil)) (.sh wS_ (.sh wS_ .nil)) rfl) ?_) | (guard_target =~ RunU _ _ _ _ (Oper.mk _ _ _ _ _ none :: _) _ _ _ _; refine RunU.cons step_any ?_) | (guard_target =~ RunU _ _ _ _ (Oper.mk _ _ _ _ _ (some _) :: _) _ _ _ _; first | refine RunU.pass rfl rfl rfl rfl ?_ | refine RunU.pass_undef rfl rfl rfl ?_ | (guard_target =~ RunU _ _ _ _ (Oper.mk _ (Op.call ⟨Callee.value _, _, _⟩) _ _ _ _ :: _) _ _ _ _; first | refine RunU.doit rfl rfl (sC_ (hD1) (.sh (.sh .nil)) (.sh wS_ (.sh wS_ .nil)) rfl) ?_) | refine RunU.doit rfl rfl step_any ?_ | ((fail_if_success (refine RunU.doit (rd := []) (up := []) rfl rfl ?_ ?_)); first | refine RunU.guard_dec rfl rfl (fun _ => ?_) (fun _ => ?_) | refine RunU.guard_not rfl rfl (fun _ => ?_) (fun _ => ?_) | refine RunU.guard rfl rfl (fun _ => ?_) (fun _ => ?_))) | refine Then.next ?_ | refine InBlock.next ?_ | ((first | refine DoneN.ret (.cell inferInstance rfl rfl .nil) rfl ?_ ?_ | refine DoneN.normal (.cell inferInstance rfl rfl .nil) rfl ?_ ?_) <;> try exact rfl))
      all_goals try (exfalso; omega)
      exact ⟨(c + 1, f), ⟨h1, by simp only; omega, by simp only; omega⟩, ⟨rfl, rfl, rfl, rfl, rfl, rfl, rfl, rfl, rfl, trivial⟩, by simp only; omega⟩
     ·rw [if_neg hg] at h1
      subst h1
      repeat' (first | (guard_target =~ WpA _ _ _ _ _ _; first | refine WpA.seq ?_ | refine WpA.drawU ?_ | refine WpA.regionU ?_ | refine WpA.block ?_ | refine WpA.ret ?_ | refine WpA.skip ?_ | refine WpA.exit ?_ | refine WpA.cond_true rfl ?_ | refine WpA.cond_false rfl ?_ | refine WpA.cond_ntrue rfl ?_ | refine WpA.cond_dec rfl (fun _ => ?_) (fun _ => ?_) | refine WpA.cond_not rfl (fun _ => ?_) (fun _ => ?_) | refine WpA.cond rfl (fun _ => ?_) (fun _ => ?_)) | (guard_target =~ RunU _ _ _ _ [] _ _ _ _; first | refine RunU.nilL ?_ | refine RunU.nilD (by kernel_rfl) ?_) | (guard_target =~ RunU _ _ _ _ (Oper.mk _ (Op.call ⟨Callee.value _, _, _⟩) _ _ _ none :: _) _ _ _ _; first | refine RunU.cons (sC_ (hD1) (.sh (.sh .nil)) (.sh wS_ (.sh wS_ .nil)) rfl) ?_) | (guard_target =~ RunU _ _ _ _ (Oper.mk _ _ _ _ _ none :: _) _ _ _ _; refine RunU.cons step_any ?_) | (guard_target =~ RunU _ _ _ _ (Oper.mk _ _ _ _ _ (some _) :: _) _ _ _ _; first | refine RunU.pass rfl rfl rfl rfl ?_ | refine RunU.pass_undef rfl rfl rfl ?_ | (guard_target =~ RunU _ _ _ _ (Oper.mk _ (Op.call ⟨Callee.value _, _, _⟩) _ _ _ _ :: _) _ _ _ _; first | refine RunU.doit rfl rfl (sC_ (hD1) (.sh (.sh .nil)) (.sh wS_ (.sh wS_ .nil)) rfl) ?_) | refine RunU.doit rfl rfl step_any ?_ | ((fail_if_success (refine RunU.doit (rd := []) (up := []) rfl rfl ?_ ?_)); first | refine RunU.guard_dec rfl rfl (fun _ => ?_) (fun _ => ?_) | refine RunU.guard_not rfl rfl (fun _ => ?_) (fun _ => ?_) | refine RunU.guard rfl rfl (fun _ => ?_) (fun _ => ?_))) | refine Then.next ?_ | refine InBlock.next ?_ | ((first | refine DoneN.ret (.cell inferInstance rfl rfl .nil) rfl ?_ ?_ | refine DoneN.normal (.cell inferInstance rfl rfl .nil) rfl ?_ ?_) <;> try exact rfl))
      all_goals try (exfalso; omega)
      exact ⟨(k, ps ++ [[c, 2 + x]], n * (2 + x), t3, _), ⟨r, by simp only; omega, by simp; omega⟩, ⟨rfl, rfl, rfl, rfl, by exact own_LL rfl, rfl, int_eq (by simp), trivial⟩, by simp only; omega⟩
 have pick : ∀ x, (∃ i, i < [1, 2, 3].length ∧ x = ([1, 2, 3] : List Int).getD i 0) → IsBr [x] ∨ [x] = [1] ∨ [x] = [2] ∨ [x] = [3] := by
  rintro x ⟨i, hi, rfl⟩
  match i, hi with
  | 0, _ => simp
  | 1, _ => simp
  | 2, _ => simp
 have gA := fun hc => main [xA] sA (.inl ⟨hc, rfl, rfl⟩)
 rcases hT with ⟨hc, hbr⟩ | ⟨hc, _⟩
 ·have hT1 := (tms_br hbr).len.1
  by_cases ht : T.getD (((T.length : Int) - 1).toNat * 1) 0 ≤ term
  ·by_cases hx : x1 = 0
   ·exact ⟨_, _, pick _ dC.1, dC.2.1, main [xC] sC (.inr ⟨⟨hc, hT1, ht⟩, .inl ⟨hx, rfl, rfl⟩⟩)⟩
   ·exact ⟨_, _, .inl hbr, d1.2.1, main T s1 (.inr ⟨⟨hc, hT1, ht⟩, .inr ⟨hx, rfl, rfl⟩⟩)⟩
  ·exact ⟨_, _, pick _ dA.1, dA.2.1, gA (.inr ⟨hc, hT1, by omega⟩)⟩
 ·exact ⟨_, _, pick _ dA.1, dA.2.1, gA (.inl hc)⟩
end Go.Proofs.Ytohhkbbjdjibgaa
