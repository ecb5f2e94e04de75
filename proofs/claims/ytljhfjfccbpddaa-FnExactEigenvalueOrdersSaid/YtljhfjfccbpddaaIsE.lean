/- EigenvalueOrders: the program and its reference count alike. No condition. -/
import Derived.Test.YtljhfjfccbpddaaIsD
import Derived.Test.YtljhfjfccbpddaaNuA
namespace Go.Proofs.Ytljhfjfccbpddaa
set_option maxHeartbeats 20000000
set_option linter.unusedVariables false
set_option linter.unusedSimpArgs false
open Go.Pv
open Go.ChangeShapes Go.WideShapes Go.ChangeAt Go.RowKit
attribute [local irreducible] RunU WpA Step CallG CallNG Done DoneN
instance fnOk6 : FnOk Try.prog 6 := ⟨_, Try.func6, rfl, by decide⟩
instance fnOk8 : FnOk Try.prog 8 := ⟨_, Try.func8, rfl, by decide⟩
def eoTo (b : Int) (l : List Int) : Nat → List (List Int)
  | 0 => []
  | j + 1 => putR (eoTo b l j) (b / (Int.gcd b (l.getD j 0) : Int)) 1
theorem eoTo_len (b : Int) (l : List Int) : ∀ j, (eoTo b l j).length ≤ j
  | 0 => Nat.le_refl _
  | j + 1 => Nat.le_trans (putR_len _ _ _) (Nat.succ_le_succ (eoTo_len b l j))
theorem eoTo_asc (b : Int) (l : List Int) : ∀ j, AscR (eoTo b l j)
  | 0 => List.Pairwise.nil
  | j + 1 => putR_asc (eoTo_asc b l j)
theorem eoTo_rows (b : Int) (l : List Int) : ∀ j, RowsR (eoTo b l j) j
  | 0 => fun _ h => by simp [eoTo] at h
  | j + 1 => by
    have := putR_rows (m := b / (Int.gcd b (l.getD j 0) : Int)) (e := 1) (b := j) (c := 1) (by omega) (by omega) (eoTo_rows b l j)
    exact this
def eoL (b : Int) (l : List Int) : List (List Int) := if IsSp b l then eoTo b l l.length else []
def eoC (b : Int) (l : List Int) : Int := if IsSp b l then 0 else 1
theorem gcd_pos {b : Int} (x : Int) (h : 1 ≤ b) : 1 ≤ (Int.gcd b x : Int) := by
  have := Int.gcd_pos_of_ne_zero_left x (show b ≠ 0 by omega)
  omega
set_option maxRecDepth 100000 in
theorem implEo_c (b : Int) (l : List Int) (hl : l.length ≤ 9223372036854775807) : CallA Try.prog 8 [aSp b l] [rLL (eoL b l), rI (eoC b l)] [] := by
  refine callA_of _ Try.func8 rfl Try.ntmps8 (by first | exact ⟨rfl, rfl⟩ | (simp only [List.all_cons, List.all_nil, V.solid, D.solid, D.solids, solids_ints, solids_bools, solids_LL, Bool.and_self, Bool.and_true, and_self]; done) | simp [V.solid, D.solid, D.solids, solids_lits, solids_ints, solids_bools, solids_LL]) ?_
  by_cases h : IsSp b l
  · have hb := h.1
    have hn := h.2.1
    repeat' (first
        | (guard_target =~ WpA _ _ _ _ _ _; first
          | refine WpA.seq ?_
          | refine WpA.drawU ?_
          | refine WpA.regionU ?_
          | refine WpA.block ?_
          | refine WpA.ret ?_
          | refine WpA.skip ?_
          | refine WpA.exit ?_
          | refine WpA.cond_true rfl ?_
          | refine WpA.cond_false rfl ?_
          | refine WpA.cond_ntrue rfl ?_
          | refine WpA.cond_dec rfl (fun _ => ?_) (fun _ => ?_)
          | refine WpA.cond_not rfl (fun _ => ?_) (fun _ => ?_)
          | refine WpA.cond rfl (fun _ => ?_) (fun _ => ?_)
          )
        | (guard_target =~ RunU _ _ _ _ [] _ _ _ _; first
          | refine RunU.nilL ?_
          | refine RunU.nilD (by kernel_rfl) ?_
          )
        | (guard_target =~ RunU _ _ _ _ (Oper.mk _ (Op.call ⟨Callee.value _, _, _⟩) _ _ _ none :: _) _ _ _ _; first
          | refine RunU.cons (step_call (implIsSp_c b l hl) (.sh .nil) (.shAgg rfl aggs_any .nil) rfl) ?_
          )
        | (guard_target =~ RunU _ _ _ _ (Oper.mk _ _ _ _ _ none :: _) _ _ _ _; refine RunU.cons step_any ?_)
        | (guard_target =~ RunU _ _ _ _ (Oper.mk _ _ _ _ _ (some _) :: _) _ _ _ _; first
          | refine RunU.pass rfl rfl rfl rfl ?_
          | refine RunU.pass_undef rfl rfl rfl ?_
          | (guard_target =~ RunU _ _ _ _ (Oper.mk _ (Op.call ⟨Callee.value _, _, _⟩) _ _ _ _ :: _) _ _ _ _; first
            | refine RunU.doit rfl rfl (step_call (implIsSp_c b l hl) (.sh .nil) (.shAgg rfl aggs_any .nil) rfl) ?_
            )
          | refine RunU.doit rfl rfl step_any ?_
          | ((fail_if_success (refine RunU.doit (rd := []) (up := []) rfl rfl ?_ ?_)); first
            | refine RunU.guard_dec rfl rfl (fun _ => ?_) (fun _ => ?_)
            | refine RunU.guard_not rfl rfl (fun _ => ?_) (fun _ => ?_)
            | refine RunU.guard rfl rfl (fun _ => ?_) (fun _ => ?_))
          )
        | refine Then.next ?_
        | refine InBlock.next ?_
        | refine Done.ret (.one (by first | exact .c rfl | exact .own rfl | exact .als rfl rfl | exact .ptr rfl rfl | exact .part rfl rfl rfl) (.one (by first | exact .c rfl | exact .own rfl | exact .als rfl rfl | exact .ptr rfl rfl | exact .part rfl rfl rfl) .nil)) (.sh .nil) ?_ rfl
        | refine Done.normal (.one (by first | exact .c rfl | exact .own rfl | exact .als rfl rfl | exact .ptr rfl rfl | exact .part rfl rfl rfl) (.one (by first | exact .c rfl | exact .own rfl | exact .als rfl rfl | exact .ptr rfl rfl | exact .part rfl rfl rfl) .nil)) (.sh .nil) ?_ rfl)
    all_goals try (exact absurd h ‹_›)
    refine WpA.loop_slots2 (fun j id => [(1, .own 1 (.pt true [.lit (.int .i64 b), .sl false 1 (ints l)])), (4, .own id (dCt (eoTo b l j))), (12, .c (.sl false 1 (ints l))), (13, vZ l.length), (14, vZ j)]) (fun j => j ≤ l.length) (fun j => l.length - j) 0 _ (by simp) ⟨rfl, rfl, rfl, rfl, rfl, trivial⟩ ?_
    intro j id s nx hj
    by_cases hlt : j < l.length
    · have hx := h.at (i := j) hlt
      have hg := gcd_pos (l.getD j 0) hb.1
      have hD := divisor_c b (l.getD (j * 1) 0) (by omega) (by rw [Nat.mul_one]; omega)
      have hA := add_c (eoTo b l j) (b / (Int.gcd b (l.getD (j * 1) 0) : Int)) 1 j (by have := eoTo_len b l j; omega) (eoTo_asc b l j) (eoTo_rows b l j) (by omega) (by omega)
      rw [show putR (eoTo b l j) (b / (Int.gcd b (l.getD (j * 1) 0) : Int)) 1 = eoTo b l (j + 1) by rw [Nat.mul_one]; rfl] at hA
      rw [← Nat.mul_one j] at hg hx
      repeat' (first
          | (guard_target =~ WpA _ _ _ _ _ _; first
            | refine WpA.seq ?_
            | refine WpA.drawU ?_
            | refine WpA.regionU ?_
            | refine WpA.block ?_
            | refine WpA.ret ?_
            | refine WpA.skip ?_
            | refine WpA.exit ?_
            | refine WpA.cond_true rfl ?_
            | refine WpA.cond_false rfl ?_
            | refine WpA.cond_ntrue rfl ?_
            | refine WpA.cond_dec rfl (fun _ => ?_) (fun _ => ?_)
            | refine WpA.cond_not rfl (fun _ => ?_) (fun _ => ?_)
            | refine WpA.cond rfl (fun _ => ?_) (fun _ => ?_)
            )
          | (guard_target =~ RunU _ _ _ _ [] _ _ _ _; first
            | refine RunU.nilL ?_
            | refine RunU.nilD (by kernel_rfl) ?_
            )
          | (guard_target =~ RunU _ _ _ _ (Oper.mk _ (Op.call ⟨Callee.value _, _, _⟩) _ _ _ none :: _) _ _ _ _; first
            | refine RunU.cons (step_call (hD) (.sh (.sh .nil)) (.sh shows_any (.sh shows_any .nil)) rfl) ?_
            | refine RunU.cons (step_call_io0 (hA) io_any (.sh (.sh .nil)) (.sh shows_any (.sh shows_any .nil)) (by exact rfl) (by exact rfl) rfl) ?_
            )
          | (guard_target =~ RunU _ _ _ _ (Oper.mk _ _ _ _ _ none :: _) _ _ _ _; refine RunU.cons step_any ?_)
          | (guard_target =~ RunU _ _ _ _ (Oper.mk _ _ _ _ _ (some _) :: _) _ _ _ _; first
            | refine RunU.pass rfl rfl rfl rfl ?_
            | refine RunU.pass_undef rfl rfl rfl ?_
            | (guard_target =~ RunU _ _ _ _ (Oper.mk _ (Op.call ⟨Callee.value _, _, _⟩) _ _ _ _ :: _) _ _ _ _; first
              | refine RunU.doit rfl rfl (step_call (hD) (.sh (.sh .nil)) (.sh shows_any (.sh shows_any .nil)) rfl) ?_
              | refine RunU.doit rfl rfl (step_call_io0 (hA) io_any (.sh (.sh .nil)) (.sh shows_any (.sh shows_any .nil)) (by exact rfl) (by exact rfl) rfl) ?_
              )
            | refine RunU.doit rfl rfl step_any ?_
            | ((fail_if_success (refine RunU.doit (rd := []) (up := []) rfl rfl ?_ ?_)); first
              | refine RunU.guard_dec rfl rfl (fun _ => ?_) (fun _ => ?_)
              | refine RunU.guard_not rfl rfl (fun _ => ?_) (fun _ => ?_)
              | refine RunU.guard rfl rfl (fun _ => ?_) (fun _ => ?_))
            )
          | refine Then.next ?_
          | refine InBlock.next ?_
          | refine Done.ret (.one (by first | exact .c rfl | exact .own rfl | exact .als rfl rfl | exact .ptr rfl rfl | exact .part rfl rfl rfl) (.one (by first | exact .c rfl | exact .own rfl | exact .als rfl rfl | exact .ptr rfl rfl | exact .part rfl rfl rfl) .nil)) (.sh .nil) ?_ rfl
          | refine Done.normal (.one (by first | exact .c rfl | exact .own rfl | exact .als rfl rfl | exact .ptr rfl rfl | exact .part rfl rfl rfl) (.one (by first | exact .c rfl | exact .own rfl | exact .als rfl rfl | exact .ptr rfl rfl | exact .part rfl rfl rfl) .nil)) (.sh .nil) ?_ rfl)
      all_goals try (exfalso; omega)
      exact ⟨j + 1, by omega, ⟨_, rfl, rfl, rfl, rfl, int_eq (by omega), trivial⟩, by omega⟩
    · obtain rfl : j = l.length := by omega
      repeat' (first
          | (guard_target =~ WpA _ _ _ _ _ _; first
            | refine WpA.seq ?_
            | refine WpA.drawU ?_
            | refine WpA.regionU ?_
            | refine WpA.block ?_
            | refine WpA.ret ?_
            | refine WpA.skip ?_
            | refine WpA.exit ?_
            | refine WpA.cond_true rfl ?_
            | refine WpA.cond_false rfl ?_
            | refine WpA.cond_ntrue rfl ?_
            | refine WpA.cond_dec rfl (fun _ => ?_) (fun _ => ?_)
            | refine WpA.cond_not rfl (fun _ => ?_) (fun _ => ?_)
            | refine WpA.cond rfl (fun _ => ?_) (fun _ => ?_)
            )
          | (guard_target =~ RunU _ _ _ _ [] _ _ _ _; first
            | refine RunU.nilL ?_
            | refine RunU.nilD (by kernel_rfl) ?_
            )
          | (guard_target =~ RunU _ _ _ _ (Oper.mk _ _ _ _ _ none :: _) _ _ _ _; refine RunU.cons step_any ?_)
          | (guard_target =~ RunU _ _ _ _ (Oper.mk _ _ _ _ _ (some _) :: _) _ _ _ _; first
            | refine RunU.pass rfl rfl rfl rfl ?_
            | refine RunU.pass_undef rfl rfl rfl ?_
            | refine RunU.doit rfl rfl step_any ?_
            | ((fail_if_success (refine RunU.doit (rd := []) (up := []) rfl rfl ?_ ?_)); first
              | refine RunU.guard_dec rfl rfl (fun _ => ?_) (fun _ => ?_)
              | refine RunU.guard_not rfl rfl (fun _ => ?_) (fun _ => ?_)
              | refine RunU.guard rfl rfl (fun _ => ?_) (fun _ => ?_))
            )
          | refine Then.next ?_
          | refine InBlock.next ?_
          | refine Done.ret (.one (by first | exact .c rfl | exact .own rfl | exact .als rfl rfl | exact .ptr rfl rfl | exact .part rfl rfl rfl) (.one (by first | exact .c rfl | exact .own rfl | exact .als rfl rfl | exact .ptr rfl rfl | exact .part rfl rfl rfl) .nil)) (.sh .nil) ?_ rfl
          | refine Done.normal (.one (by first | exact .c rfl | exact .own rfl | exact .als rfl rfl | exact .ptr rfl rfl | exact .part rfl rfl rfl) (.one (by first | exact .c rfl | exact .own rfl | exact .als rfl rfl | exact .ptr rfl rfl | exact .part rfl rfl rfl) .nil)) (.sh .nil) ?_ rfl)
      all_goals first | (exfalso; omega) | simp only [eoL, eoC, if_pos h]
  · repeat' (first
        | (guard_target =~ WpA _ _ _ _ _ _; first
          | refine WpA.seq ?_
          | refine WpA.drawU ?_
          | refine WpA.regionU ?_
          | refine WpA.block ?_
          | refine WpA.ret ?_
          | refine WpA.skip ?_
          | refine WpA.exit ?_
          | refine WpA.cond_true rfl ?_
          | refine WpA.cond_false rfl ?_
          | refine WpA.cond_ntrue rfl ?_
          | refine WpA.cond_dec rfl (fun _ => ?_) (fun _ => ?_)
          | refine WpA.cond_not rfl (fun _ => ?_) (fun _ => ?_)
          | refine WpA.cond rfl (fun _ => ?_) (fun _ => ?_)
          )
        | (guard_target =~ RunU _ _ _ _ [] _ _ _ _; first
          | refine RunU.nilL ?_
          | refine RunU.nilD (by kernel_rfl) ?_
          )
        | (guard_target =~ RunU _ _ _ _ (Oper.mk _ (Op.call ⟨Callee.value _, _, _⟩) _ _ _ none :: _) _ _ _ _; first
          | refine RunU.cons (step_call (implIsSp_c b l hl) (.sh .nil) (.shAgg rfl aggs_any .nil) rfl) ?_
          )
        | (guard_target =~ RunU _ _ _ _ (Oper.mk _ _ _ _ _ none :: _) _ _ _ _; refine RunU.cons step_any ?_)
        | (guard_target =~ RunU _ _ _ _ (Oper.mk _ _ _ _ _ (some _) :: _) _ _ _ _; first
          | refine RunU.pass rfl rfl rfl rfl ?_
          | refine RunU.pass_undef rfl rfl rfl ?_
          | (guard_target =~ RunU _ _ _ _ (Oper.mk _ (Op.call ⟨Callee.value _, _, _⟩) _ _ _ _ :: _) _ _ _ _; first
            | refine RunU.doit rfl rfl (step_call (implIsSp_c b l hl) (.sh .nil) (.shAgg rfl aggs_any .nil) rfl) ?_
            )
          | refine RunU.doit rfl rfl step_any ?_
          | ((fail_if_success (refine RunU.doit (rd := []) (up := []) rfl rfl ?_ ?_)); first
            | refine RunU.guard_dec rfl rfl (fun _ => ?_) (fun _ => ?_)
            | refine RunU.guard_not rfl rfl (fun _ => ?_) (fun _ => ?_)
            | refine RunU.guard rfl rfl (fun _ => ?_) (fun _ => ?_))
          )
        | refine Then.next ?_
        | refine InBlock.next ?_
        | refine Done.ret (.one (by first | exact .c rfl | exact .own rfl | exact .als rfl rfl | exact .ptr rfl rfl | exact .part rfl rfl rfl) (.one (by first | exact .c rfl | exact .own rfl | exact .als rfl rfl | exact .ptr rfl rfl | exact .part rfl rfl rfl) .nil)) (.sh .nil) ?_ rfl
        | refine Done.normal (.one (by first | exact .c rfl | exact .own rfl | exact .als rfl rfl | exact .ptr rfl rfl | exact .part rfl rfl rfl) (.one (by first | exact .c rfl | exact .own rfl | exact .als rfl rfl | exact .ptr rfl rfl | exact .part rfl rfl rfl) .nil)) (.sh .nil) ?_ rfl)
    all_goals first | (exact absurd ‹_› h) | (simp only [eoL, eoC, if_neg h]; rfl)
/-- The slot that a piece of code lays first. -/
def firstDst : Code → Option Nat
  | .seq a _ => firstDst a
  | .region _ ops _ => (ops[0]?).bind (·.dst)
  | _ => none
/-- A slice of rows is opened ahead of the code that lays slot t first. -/
theorem WpA.openedC {P : Program} {n : NN} {st : Nat → AV} {nx : Nat} {Q : Exit → (Nat → AV) → Nat → Prop} {c : Code} {id1 : Nat} {R1 : List (List Int)} (t x : Nat) (ht : firstDst c = some t) (hx : st x = .own id1 (.sl true 1 (LL R1)))
    (h : ∀ τ1 : List (Value × List Int), τ1.map Prod.snd = R1 →
      WpA P n c (put st x (.own nx (.sl true 1 ((τ1.map Prod.fst).map D.lit)))) (nx + 1)
        (fun e s k => ∃ z j cs τ R, τ.Perm τ1 ∧ Mixd cs τ R ∧ s z = .own j (.sl true 1 cs) ∧ Q e (put s z (.own k (.sl true 1 (LL R)))) (k + 1))) : WpA P n c st nx Q := WpA.opened hx h
abbrev litsT (τ : List (Value × List Int)) : List D := (τ.map Prod.fst).map D.lit
theorem lits_plain (τ : List (Value × List Int)) (a b : Nat) : ∀ c ∈ ((litsT τ).drop a).take b, c.plain = true := fun c hc => by
  obtain ⟨v, _, rfl⟩ := List.mem_map.1 (List.mem_of_mem_drop (List.mem_of_mem_take hc))
  rfl
/-- A row among opened ones. -/
theorem mix_ins {τ : List (Value × List Int)} {R : List (List Int)} {i : Nat} {row : List Int} {cs : List D} (hR : τ.map Prod.snd = R) (h : cs = (litsT τ).take i ++ .sl true 1 (ints row) :: (litsT τ).drop i) : Mixd cs τ (R.take i ++ row :: R.drop i) := by
  subst h hR
  have h1 := (Mixd.lits (τ.take i)).append (Mixd.row (r := row) (Mixd.lits (τ.drop i)))
  rw [List.take_append_drop] at h1
  simpa only [litsT, List.map_take, List.map_drop] using h1
set_option maxRecDepth 100000 in
theorem specEo_c (b : Int) (l : List Int) (hl : l.length ≤ 9223372036854775807) : CallA Try.prog 6 [aSp b l] [rLL (eoL b l), rI (eoC b l)] [] := by
  refine callA_of _ Try.func6 rfl Try.ntmps6 (by first | exact ⟨rfl, rfl⟩ | (simp only [List.all_cons, List.all_nil, V.solid, D.solid, D.solids, solids_ints, solids_bools, solids_LL, Bool.and_self, Bool.and_true, and_self]; done) | simp [V.solid, D.solid, D.solids, solids_lits, solids_ints, solids_bools, solids_LL]) ?_
  by_cases h : IsSp b l
  · have hb := h.1
    have hn := h.2.1
    repeat' (first
        | (guard_target =~ WpA _ _ _ _ _ _; first
          | refine WpA.seq ?_
          | refine WpA.drawU ?_
          | refine WpA.regionU ?_
          | refine WpA.block ?_
          | refine WpA.ret ?_
          | refine WpA.skip ?_
          | refine WpA.exit ?_
          | refine WpA.cond_true rfl ?_
          | refine WpA.cond_false rfl ?_
          | refine WpA.cond_ntrue rfl ?_
          | refine WpA.cond_dec rfl (fun _ => ?_) (fun _ => ?_)
          | refine WpA.cond_not rfl (fun _ => ?_) (fun _ => ?_)
          | refine WpA.cond rfl (fun _ => ?_) (fun _ => ?_)
          )
        | (guard_target =~ RunU _ _ _ _ [] _ _ _ _; first
          | refine RunU.nilL ?_
          | refine RunU.nilD (by kernel_rfl) ?_
          )
        | (guard_target =~ RunU _ _ _ _ (Oper.mk _ (Op.call ⟨Callee.value _, _, _⟩) _ _ _ none :: _) _ _ _ _; first
          | refine RunU.cons (step_call (specIs_c b l hl) (.sh .nil) (.shAgg rfl aggs_any .nil) rfl) ?_
          )
        | (guard_target =~ RunU _ _ _ _ (Oper.mk _ _ _ _ _ none :: _) _ _ _ _; refine RunU.cons step_any ?_)
        | (guard_target =~ RunU _ _ _ _ (Oper.mk _ _ _ _ _ (some _) :: _) _ _ _ _; first
          | refine RunU.pass rfl rfl rfl rfl ?_
          | refine RunU.pass_undef rfl rfl rfl ?_
          | (guard_target =~ RunU _ _ _ _ (Oper.mk _ (Op.call ⟨Callee.value _, _, _⟩) _ _ _ _ :: _) _ _ _ _; first
            | refine RunU.doit rfl rfl (step_call (specIs_c b l hl) (.sh .nil) (.shAgg rfl aggs_any .nil) rfl) ?_
            )
          | refine RunU.doit rfl rfl step_any ?_
          | ((fail_if_success (refine RunU.doit (rd := []) (up := []) rfl rfl ?_ ?_)); first
            | refine RunU.guard_dec rfl rfl (fun _ => ?_) (fun _ => ?_)
            | refine RunU.guard_not rfl rfl (fun _ => ?_) (fun _ => ?_)
            | refine RunU.guard rfl rfl (fun _ => ?_) (fun _ => ?_))
          )
        | refine Then.next ?_
        | refine InBlock.next ?_
        | refine Done.ret (.one (by first | exact .c rfl | exact .own rfl | exact .als rfl rfl | exact .ptr rfl rfl | exact .part rfl rfl rfl) (.one (by first | exact .c rfl | exact .own rfl | exact .als rfl rfl | exact .ptr rfl rfl | exact .part rfl rfl rfl) .nil)) (.sh .nil) ?_ rfl
        | refine Done.normal (.one (by first | exact .c rfl | exact .own rfl | exact .als rfl rfl | exact .ptr rfl rfl | exact .part rfl rfl rfl) (.one (by first | exact .c rfl | exact .own rfl | exact .als rfl rfl | exact .ptr rfl rfl | exact .part rfl rfl rfl) .nil)) (.sh .nil) ?_ rfl)
    all_goals try (exact absurd h ‹_›)
    refine WpA.loop_slots2 (fun j id => [(1, .own 1 (.pt true [.lit (.int .i64 b), .sl false 1 (ints l)])), (4, .own id (.sl true 1 (LL (eoTo b l j)))), (5, vZ j)]) (fun j => j ≤ l.length) (fun j => l.length - j) 0 _ (by simp) ⟨rfl, rfl, rfl, trivial⟩ ?_
    intro j id s nx hj
    by_cases hlt : j < l.length
    · have hx := h.at (i := j) hlt
      have hg := gcd_pos (l.getD j 0) hb.1
      have hD := gcd_c b (l.getD (j * 1) 0) (by omega) (by rw [Nat.mul_one]; omega)
      have hlen := eoTo_len b l j
      have hrows := eoTo_rows b l j
      have hstep : putR (eoTo b l j) (b / (Int.gcd b (l.getD (j * 1) 0) : Int)) 1 = eoTo b l (j + 1) := by rw [Nat.mul_one]; rfl
      rw [← Nat.mul_one j] at hg hx
      have hat := atR_le (b / (Int.gcd b (l.getD (j * 1) 0) : Int)) (eoTo b l j)
      have hlow := atR_low (b / (Int.gcd b (l.getD (j * 1) 0) : Int)) (eoTo b l j)
      have hnot := atR_not (b / (Int.gcd b (l.getD (j * 1) 0) : Int)) (eoTo b l j)
      have hhas := putR_has (b / (Int.gcd b (l.getD (j * 1) 0) : Int)) 1 (eoTo b l j)
      have hnew := putR_new (b / (Int.gcd b (l.getD (j * 1) 0) : Int)) 1 (eoTo b l j)
      rw [hstep] at hhas hnew
      clear hstep
      generalize hRR : eoTo b l j = R at *
      clear hRR
      repeat' (first
          | (guard_target =~ WpA _ _ _ _ _ _; first
            | refine WpA.seq ?_
            | refine WpA.drawU ?_
            | refine WpA.regionU ?_
            | refine WpA.block ?_
            | refine WpA.ret ?_
            | refine WpA.skip ?_
            | refine WpA.exit ?_
            | refine WpA.cond_true rfl ?_
            | refine WpA.cond_false rfl ?_
            | refine WpA.cond_ntrue rfl ?_
            | refine WpA.cond_dec rfl (fun _ => ?_) (fun _ => ?_)
            | refine WpA.cond_not rfl (fun _ => ?_) (fun _ => ?_)
            | refine WpA.cond rfl (fun _ => ?_) (fun _ => ?_)
            )
          | (guard_target =~ RunU _ _ _ _ [] _ _ _ _; first
            | refine RunU.nilL ?_
            | refine RunU.nilD (by kernel_rfl) ?_
            )
          | (guard_target =~ RunU _ _ _ _ (Oper.mk _ (Op.call ⟨Callee.value _, _, _⟩) _ _ _ none :: _) _ _ _ _; first
            | refine RunU.cons (step_call (hD) (.sh (.sh .nil)) (.sh shows_any (.sh shows_any .nil)) rfl) ?_
            )
          | (guard_target =~ RunU _ _ _ _ (Oper.mk _ _ _ _ _ none :: _) _ _ _ _; refine RunU.cons step_any ?_)
          | (guard_target =~ RunU _ _ _ _ (Oper.mk _ _ _ _ _ (some _) :: _) _ _ _ _; first
            | refine RunU.pass rfl rfl rfl rfl ?_
            | refine RunU.pass_undef rfl rfl rfl ?_
            | (guard_target =~ RunU _ _ _ _ (Oper.mk _ (Op.call ⟨Callee.value _, _, _⟩) _ _ _ _ :: _) _ _ _ _; first
              | refine RunU.doit rfl rfl (step_call (hD) (.sh (.sh .nil)) (.sh shows_any (.sh shows_any .nil)) rfl) ?_
              )
            | refine RunU.doit rfl rfl step_any ?_
            | ((fail_if_success (refine RunU.doit (rd := []) (up := []) rfl rfl ?_ ?_)); first
              | refine RunU.guard_dec rfl rfl (fun _ => ?_) (fun _ => ?_)
              | refine RunU.guard_not rfl rfl (fun _ => ?_) (fun _ => ?_)
              | refine RunU.guard rfl rfl (fun _ => ?_) (fun _ => ?_))
            )
          | refine Then.next ?_
          | refine InBlock.next ?_
          | refine Done.ret (.one (by first | exact .c rfl | exact .own rfl | exact .als rfl rfl | exact .ptr rfl rfl | exact .part rfl rfl rfl) (.one (by first | exact .c rfl | exact .own rfl | exact .als rfl rfl | exact .ptr rfl rfl | exact .part rfl rfl rfl) .nil)) (.sh .nil) ?_ rfl
          | refine Done.normal (.one (by first | exact .c rfl | exact .own rfl | exact .als rfl rfl | exact .ptr rfl rfl | exact .part rfl rfl rfl) (.one (by first | exact .c rfl | exact .own rfl | exact .als rfl rfl | exact .ptr rfl rfl | exact .part rfl rfl rfl) .nil)) (.sh .nil) ?_ rfl)
      all_goals try (exfalso; omega)
      generalize b / (Int.gcd b (l.getD (j * 1) 0) : Int) = m at *
      generalize atR m R = k at *
      refine WpA.loop_slots (ι := Nat) (fun i => [(1, .own 1 (.pt true [.lit (.int .i64 b), .sl false 1 (ints l)])), (4, .own id (.sl true 1 (LL R))), (5, vZ j), (6, vZ m), (7, vZ i)]) (fun i => i ≤ k) (fun i => k - i) 0 (by omega) ⟨rfl, rfl, rfl, rfl, rfl, trivial⟩ ?_
      intro i s nx hi
      by_cases hik : i < k
      · have hlo := hlow i hik
        have hro := (hrows.at (i := i) (by omega)).1
        rw [← Nat.mul_one i] at hlo hro
        rw [← Nat.mul_one 0] at hlo
        repeat' (first
            | (guard_target =~ WpA _ _ _ _ _ _; first
              | refine WpA.seq ?_
              | refine WpA.drawU ?_
              | refine WpA.regionU ?_
              | refine WpA.block ?_
              | refine WpA.ret ?_
              | refine WpA.skip ?_
              | refine WpA.exit ?_
              | refine WpA.cond_true rfl ?_
              | refine WpA.cond_false rfl ?_
              | refine WpA.cond_ntrue rfl ?_
              | refine WpA.cond_dec rfl (fun _ => ?_) (fun _ => ?_)
              | refine WpA.cond_not rfl (fun _ => ?_) (fun _ => ?_)
              | refine WpA.cond rfl (fun _ => ?_) (fun _ => ?_)
              )
            | (guard_target =~ RunU _ _ _ _ [] _ _ _ _; first
              | refine RunU.nilL ?_
              | refine RunU.nilD (by kernel_rfl) ?_
              )
            | (guard_target =~ RunU _ _ _ _ (Oper.mk _ _ _ _ _ none :: _) _ _ _ _; refine RunU.cons step_any ?_)
            | (guard_target =~ RunU _ _ _ _ (Oper.mk _ _ _ _ _ (some _) :: _) _ _ _ _; first
              | refine RunU.pass rfl rfl rfl rfl ?_
              | refine RunU.pass_undef rfl rfl rfl ?_
              | refine RunU.doit rfl rfl step_any ?_
              | ((fail_if_success (refine RunU.doit (rd := []) (up := []) rfl rfl ?_ ?_)); first
                | refine RunU.guard_dec rfl rfl (fun _ => ?_) (fun _ => ?_)
                | refine RunU.guard_not rfl rfl (fun _ => ?_) (fun _ => ?_)
                | refine RunU.guard rfl rfl (fun _ => ?_) (fun _ => ?_))
              )
            | refine Then.next ?_
            | refine InBlock.next ?_
            | refine Done.ret (.one (by first | exact .c rfl | exact .own rfl | exact .als rfl rfl | exact .ptr rfl rfl | exact .part rfl rfl rfl) (.one (by first | exact .c rfl | exact .own rfl | exact .als rfl rfl | exact .ptr rfl rfl | exact .part rfl rfl rfl) .nil)) (.sh .nil) ?_ rfl
            | refine Done.normal (.one (by first | exact .c rfl | exact .own rfl | exact .als rfl rfl | exact .ptr rfl rfl | exact .part rfl rfl rfl) (.one (by first | exact .c rfl | exact .own rfl | exact .als rfl rfl | exact .ptr rfl rfl | exact .part rfl rfl rfl) .nil)) (.sh .nil) ?_ rfl)
        all_goals try (exfalso; omega)
        exact ⟨i + 1, by omega, ⟨rfl, rfl, rfl, rfl, int_eq (by omega), trivial⟩, by omega⟩
      · obtain rfl : i = k := by omega
        clear hlow hD hg hx
        by_cases hin : i < R.length ∧ (R.getD i []).getD 0 0 = m
        · have hst := hhas hin.1 hin.2
          have hro := hrows.at hin.1
          have h1 : (R.getD (i * 1) []).length = 2 := by simpa using hro.1
          have h2 : -(j : Int) ≤ (R.getD (i * 1) []).getD (1 * 1) 0 ∧ (R.getD (i * 1) []).getD (1 * 1) 0 ≤ j := by simpa using hro.2
          have h3 : (R.getD (i * 1) []).getD (0 * 1) 0 = m := by simpa using hin.2
          have hst2 : R.set (i * 1) ((R.getD (i * 1) []).set (1 * 1) ((R.getD (i * 1) []).getD (1 * 1) 0 + 1)) = eoTo b l (j + 1) := by simpa using hst.symm
          obtain ⟨hin, _⟩ := hin
          clear hro hst hhas hnew hnot hrows
          repeat' (first
              | (guard_target =~ WpA _ _ _ _ _ _; first
                | refine WpA.seq ?_
                | refine WpA.drawU ?_
                | refine WpA.regionU ?_
                | refine WpA.block ?_
                | refine WpA.ret ?_
                | refine WpA.skip ?_
                | refine WpA.exit ?_
                | refine WpA.cond_true rfl ?_
                | refine WpA.cond_false rfl ?_
                | refine WpA.cond_ntrue rfl ?_
                | refine WpA.cond_dec rfl (fun _ => ?_) (fun _ => ?_)
                | refine WpA.cond_not rfl (fun _ => ?_) (fun _ => ?_)
                | refine WpA.cond rfl (fun _ => ?_) (fun _ => ?_)
                )
              | (guard_target =~ RunU _ _ _ _ [] _ _ _ _; first
                | refine RunU.nilL ?_
                | refine RunU.nilD (by kernel_rfl) ?_
                )
              | (guard_target =~ RunU _ _ _ _ (Oper.mk _ _ _ _ _ none :: _) _ _ _ _; refine RunU.cons step_any ?_)
              | (guard_target =~ RunU _ _ _ _ (Oper.mk _ _ _ _ _ (some _) :: _) _ _ _ _; first
                | refine RunU.pass rfl rfl rfl rfl ?_
                | refine RunU.pass_undef rfl rfl rfl ?_
                | refine RunU.doit rfl rfl step_any ?_
                | ((fail_if_success (refine RunU.doit (rd := []) (up := []) rfl rfl ?_ ?_)); first
                  | refine RunU.guard_dec rfl rfl (fun _ => ?_) (fun _ => ?_)
                  | refine RunU.guard_not rfl rfl (fun _ => ?_) (fun _ => ?_)
                  | refine RunU.guard rfl rfl (fun _ => ?_) (fun _ => ?_))
                )
              | refine Then.next ?_
              | refine InBlock.next ?_
              | refine Done.ret (.one (by first | exact .c rfl | exact .own rfl | exact .als rfl rfl | exact .ptr rfl rfl | exact .part rfl rfl rfl) (.one (by first | exact .c rfl | exact .own rfl | exact .als rfl rfl | exact .ptr rfl rfl | exact .part rfl rfl rfl) .nil)) (.sh .nil) ?_ rfl
              | refine Done.normal (.one (by first | exact .c rfl | exact .own rfl | exact .als rfl rfl | exact .ptr rfl rfl | exact .part rfl rfl rfl) (.one (by first | exact .c rfl | exact .own rfl | exact .als rfl rfl | exact .ptr rfl rfl | exact .part rfl rfl rfl) .nil)) (.sh .nil) ?_ rfl)
          all_goals try (exfalso; omega)
          exact ⟨j + 1, by omega, ⟨_, rfl, by exact own_put_LL (by omega) hst2, int_eq (by omega), trivial⟩, by omega⟩
        · have hst := hnew (fun h e => hin ⟨h, e⟩)
          have hro := fun h => (hrows.at (i := i) h).1
          have hne : i < R.length → ¬ (R.getD (i * 1) []).getD (0 * 1) 0 = m := fun h => by simpa using fun e => hin ⟨h, e⟩
          have hnl : i < R.length → ¬ (R.getD (i * 1) []).getD (0 * 1) 0 < m := fun h => by simpa using hnot h
          have hr2 : i < R.length → (R.getD (i * 1) []).length = 2 := fun h => by simpa using hro h
          clear hro hhas hnew hnot hrows hin
          repeat' (first
              | (guard_target =~ WpA _ _ _ _ _ _; first
                | refine WpA.openedC 71 4 rfl rfl ?_
                | refine WpA.seq ?_
                | refine WpA.drawU ?_
                | refine WpA.regionU ?_
                | refine WpA.block ?_
                | refine WpA.ret ?_
                | refine WpA.skip ?_
                | refine WpA.exit ?_
                | refine WpA.cond_true rfl ?_
                | refine WpA.cond_false rfl ?_
                | refine WpA.cond_ntrue rfl ?_
                | refine WpA.cond_dec rfl (fun _ => ?_) (fun _ => ?_)
                | refine WpA.cond_not rfl (fun _ => ?_) (fun _ => ?_)
                | refine WpA.cond rfl (fun _ => ?_) (fun _ => ?_)
                )
              | (guard_target =~ RunU _ _ _ _ [] _ _ _ _; first
                | refine RunU.nilL ?_
                | refine RunU.nilD (by kernel_rfl) ?_
                )
              | (guard_target =~ RunU _ _ _ _ (Oper.mk _ _ _ _ _ none :: _) _ _ _ _; refine RunU.cons step_any ?_)
              | (guard_target =~ RunU _ _ _ _ (Oper.mk _ _ _ _ _ (some _) :: _) _ _ _ _; first
                | refine RunU.pass rfl rfl rfl rfl ?_
                | refine RunU.pass_undef rfl rfl rfl ?_
                | refine RunU.doit rfl rfl step_any ?_
                | ((fail_if_success (refine RunU.doit (rd := []) (up := []) rfl rfl ?_ ?_)); first
                  | refine RunU.guard_dec rfl rfl (fun _ => ?_) (fun _ => ?_)
                  | refine RunU.guard_not rfl rfl (fun _ => ?_) (fun _ => ?_)
                  | refine RunU.guard rfl rfl (fun _ => ?_) (fun _ => ?_))
                )
              | refine Then.next ?_
              | refine InBlock.next ?_
              | refine Done.ret (.one (by first | exact .c rfl | exact .own rfl | exact .als rfl rfl | exact .ptr rfl rfl | exact .part rfl rfl rfl) (.one (by first | exact .c rfl | exact .own rfl | exact .als rfl rfl | exact .ptr rfl rfl | exact .part rfl rfl rfl) .nil)) (.sh .nil) ?_ rfl
              | refine Done.normal (.one (by first | exact .c rfl | exact .own rfl | exact .als rfl rfl | exact .ptr rfl rfl | exact .part rfl rfl rfl) (.one (by first | exact .c rfl | exact .own rfl | exact .als rfl rfl | exact .ptr rfl rfl | exact .part rfl rfl rfl) .nil)) (.sh .nil) ?_ rfl)
          all_goals try (exfalso; simp_all; done)
          all_goals try (exfalso; omega)
          · intro τ hτ
            have hτl : τ.length = R.length := by rw [← hτ]; simp
            repeat' (first
                | (guard_target =~ WpA _ _ _ _ _ _; first
                  | refine WpA.seq ?_
                  | refine WpA.drawU ?_
                  | refine WpA.regionU ?_
                  | refine WpA.block ?_
                  | refine WpA.ret ?_
                  | refine WpA.skip ?_
                  | refine WpA.exit ?_
                  | refine WpA.cond_true rfl ?_
                  | refine WpA.cond_false rfl ?_
                  | refine WpA.cond_ntrue rfl ?_
                  | refine WpA.cond_dec rfl (fun _ => ?_) (fun _ => ?_)
                  | refine WpA.cond_not rfl (fun _ => ?_) (fun _ => ?_)
                  | refine WpA.cond rfl (fun _ => ?_) (fun _ => ?_)
                  )
                | (guard_target =~ RunU _ _ _ _ [] _ _ _ _; first
                  | refine RunU.nilL ?_
                  | refine RunU.nilD (by kernel_rfl) ?_
                  )
                | (guard_target =~ RunU _ _ _ _ (Oper.mk _ _ _ _ _ none :: _) _ _ _ _; first
                  | refine RunU.cons (step_append_view (by exact .own rfl) (by exact .sub rfl rfl rfl) (lits_plain τ _ _) (by simp; omega) rfl) ?_
                  | refine RunU.cons (step_append_give (by exact .own rfl) (by exact .als rfl rfl) (by simp; omega) rfl) ?_
                  )
                | (guard_target =~ RunU _ _ _ _ (Oper.mk _ _ _ _ _ none :: _) _ _ _ _; refine RunU.cons step_any ?_)
                | (guard_target =~ RunU _ _ _ _ (Oper.mk _ _ _ _ _ (some _) :: _) _ _ _ _; first
                  | refine RunU.pass rfl rfl rfl rfl ?_
                  | refine RunU.pass_undef rfl rfl rfl ?_
                  | refine RunU.doit rfl rfl step_any ?_
                  | ((fail_if_success (refine RunU.doit (rd := []) (up := []) rfl rfl ?_ ?_)); first
                    | refine RunU.guard_dec rfl rfl (fun _ => ?_) (fun _ => ?_)
                    | refine RunU.guard_not rfl rfl (fun _ => ?_) (fun _ => ?_)
                    | refine RunU.guard rfl rfl (fun _ => ?_) (fun _ => ?_))
                  )
                | refine Then.next ?_
                | refine InBlock.next ?_
                | refine Done.ret (.one (by first | exact .c rfl | exact .own rfl | exact .als rfl rfl | exact .ptr rfl rfl | exact .part rfl rfl rfl) (.one (by first | exact .c rfl | exact .own rfl | exact .als rfl rfl | exact .ptr rfl rfl | exact .part rfl rfl rfl) .nil)) (.sh .nil) ?_ rfl
                | refine Done.normal (.one (by first | exact .c rfl | exact .own rfl | exact .als rfl rfl | exact .ptr rfl rfl | exact .part rfl rfl rfl) (.one (by first | exact .c rfl | exact .own rfl | exact .als rfl rfl | exact .ptr rfl rfl | exact .part rfl rfl rfl) .nil)) (.sh .nil) ?_ rfl)
            refine ⟨4, _, _, τ, R.take i ++ [m, 1] :: R.drop i, List.Perm.refl _, ?_, rfl, ?_⟩
            · exact mix_ins hτ (by simp [ints, hτl]; exact List.take_of_length_le (by simp; omega))
            · rw [← hst]
              repeat' (first
                  | (guard_target =~ WpA _ _ _ _ _ _; first
                    | refine WpA.seq ?_
                    | refine WpA.drawU ?_
                    | refine WpA.regionU ?_
                    | refine WpA.block ?_
                    | refine WpA.ret ?_
                    | refine WpA.skip ?_
                    | refine WpA.exit ?_
                    | refine WpA.cond_true rfl ?_
                    | refine WpA.cond_false rfl ?_
                    | refine WpA.cond_ntrue rfl ?_
                    | refine WpA.cond_dec rfl (fun _ => ?_) (fun _ => ?_)
                    | refine WpA.cond_not rfl (fun _ => ?_) (fun _ => ?_)
                    | refine WpA.cond rfl (fun _ => ?_) (fun _ => ?_)
                    )
                  | (guard_target =~ RunU _ _ _ _ [] _ _ _ _; first
                    | refine RunU.nilL ?_
                    | refine RunU.nilD (by kernel_rfl) ?_
                    )
                  | (guard_target =~ RunU _ _ _ _ (Oper.mk _ _ _ _ _ none :: _) _ _ _ _; refine RunU.cons step_any ?_)
                  | (guard_target =~ RunU _ _ _ _ (Oper.mk _ _ _ _ _ (some _) :: _) _ _ _ _; first
                    | refine RunU.pass rfl rfl rfl rfl ?_
                    | refine RunU.pass_undef rfl rfl rfl ?_
                    | refine RunU.doit rfl rfl step_any ?_
                    | ((fail_if_success (refine RunU.doit (rd := []) (up := []) rfl rfl ?_ ?_)); first
                      | refine RunU.guard_dec rfl rfl (fun _ => ?_) (fun _ => ?_)
                      | refine RunU.guard_not rfl rfl (fun _ => ?_) (fun _ => ?_)
                      | refine RunU.guard rfl rfl (fun _ => ?_) (fun _ => ?_))
                    )
                  | refine Then.next ?_
                  | refine InBlock.next ?_
                  | refine Done.ret (.one (by first | exact .c rfl | exact .own rfl | exact .als rfl rfl | exact .ptr rfl rfl | exact .part rfl rfl rfl) (.one (by first | exact .c rfl | exact .own rfl | exact .als rfl rfl | exact .ptr rfl rfl | exact .part rfl rfl rfl) .nil)) (.sh .nil) ?_ rfl
                  | refine Done.normal (.one (by first | exact .c rfl | exact .own rfl | exact .als rfl rfl | exact .ptr rfl rfl | exact .part rfl rfl rfl) (.one (by first | exact .c rfl | exact .own rfl | exact .als rfl rfl | exact .ptr rfl rfl | exact .part rfl rfl rfl) .nil)) (.sh .nil) ?_ rfl)
              exact ⟨j + 1, by omega, ⟨_, rfl, rfl, int_eq (by omega), trivial⟩, by omega⟩
          · intro τ hτ
            have hτl : τ.length = R.length := by rw [← hτ]; simp
            repeat' (first
                | (guard_target =~ WpA _ _ _ _ _ _; first
                  | refine WpA.seq ?_
                  | refine WpA.drawU ?_
                  | refine WpA.regionU ?_
                  | refine WpA.block ?_
                  | refine WpA.ret ?_
                  | refine WpA.skip ?_
                  | refine WpA.exit ?_
                  | refine WpA.cond_true rfl ?_
                  | refine WpA.cond_false rfl ?_
                  | refine WpA.cond_ntrue rfl ?_
                  | refine WpA.cond_dec rfl (fun _ => ?_) (fun _ => ?_)
                  | refine WpA.cond_not rfl (fun _ => ?_) (fun _ => ?_)
                  | refine WpA.cond rfl (fun _ => ?_) (fun _ => ?_)
                  )
                | (guard_target =~ RunU _ _ _ _ [] _ _ _ _; first
                  | refine RunU.nilL ?_
                  | refine RunU.nilD (by kernel_rfl) ?_
                  )
                | (guard_target =~ RunU _ _ _ _ (Oper.mk _ _ _ _ _ none :: _) _ _ _ _; first
                  | refine RunU.cons (step_append_view (by exact .own rfl) (by exact .sub rfl rfl rfl) (lits_plain τ _ _) (by simp; omega) rfl) ?_
                  | refine RunU.cons (step_append_give (by exact .own rfl) (by exact .als rfl rfl) (by simp; omega) rfl) ?_
                  )
                | (guard_target =~ RunU _ _ _ _ (Oper.mk _ _ _ _ _ none :: _) _ _ _ _; refine RunU.cons step_any ?_)
                | (guard_target =~ RunU _ _ _ _ (Oper.mk _ _ _ _ _ (some _) :: _) _ _ _ _; first
                  | refine RunU.pass rfl rfl rfl rfl ?_
                  | refine RunU.pass_undef rfl rfl rfl ?_
                  | refine RunU.doit rfl rfl step_any ?_
                  | ((fail_if_success (refine RunU.doit (rd := []) (up := []) rfl rfl ?_ ?_)); first
                    | refine RunU.guard_dec rfl rfl (fun _ => ?_) (fun _ => ?_)
                    | refine RunU.guard_not rfl rfl (fun _ => ?_) (fun _ => ?_)
                    | refine RunU.guard rfl rfl (fun _ => ?_) (fun _ => ?_))
                  )
                | refine Then.next ?_
                | refine InBlock.next ?_
                | refine Done.ret (.one (by first | exact .c rfl | exact .own rfl | exact .als rfl rfl | exact .ptr rfl rfl | exact .part rfl rfl rfl) (.one (by first | exact .c rfl | exact .own rfl | exact .als rfl rfl | exact .ptr rfl rfl | exact .part rfl rfl rfl) .nil)) (.sh .nil) ?_ rfl
                | refine Done.normal (.one (by first | exact .c rfl | exact .own rfl | exact .als rfl rfl | exact .ptr rfl rfl | exact .part rfl rfl rfl) (.one (by first | exact .c rfl | exact .own rfl | exact .als rfl rfl | exact .ptr rfl rfl | exact .part rfl rfl rfl) .nil)) (.sh .nil) ?_ rfl)
            refine ⟨4, _, _, τ, R.take i ++ [m, 1] :: R.drop i, List.Perm.refl _, ?_, rfl, ?_⟩
            · exact mix_ins hτ (by simp [ints, hτl]; exact List.take_of_length_le (by simp; omega))
            · rw [← hst]
              repeat' (first
                  | (guard_target =~ WpA _ _ _ _ _ _; first
                    | refine WpA.seq ?_
                    | refine WpA.drawU ?_
                    | refine WpA.regionU ?_
                    | refine WpA.block ?_
                    | refine WpA.ret ?_
                    | refine WpA.skip ?_
                    | refine WpA.exit ?_
                    | refine WpA.cond_true rfl ?_
                    | refine WpA.cond_false rfl ?_
                    | refine WpA.cond_ntrue rfl ?_
                    | refine WpA.cond_dec rfl (fun _ => ?_) (fun _ => ?_)
                    | refine WpA.cond_not rfl (fun _ => ?_) (fun _ => ?_)
                    | refine WpA.cond rfl (fun _ => ?_) (fun _ => ?_)
                    )
                  | (guard_target =~ RunU _ _ _ _ [] _ _ _ _; first
                    | refine RunU.nilL ?_
                    | refine RunU.nilD (by kernel_rfl) ?_
                    )
                  | (guard_target =~ RunU _ _ _ _ (Oper.mk _ _ _ _ _ none :: _) _ _ _ _; refine RunU.cons step_any ?_)
                  | (guard_target =~ RunU _ _ _ _ (Oper.mk _ _ _ _ _ (some _) :: _) _ _ _ _; first
                    | refine RunU.pass rfl rfl rfl rfl ?_
                    | refine RunU.pass_undef rfl rfl rfl ?_
                    | refine RunU.doit rfl rfl step_any ?_
                    | ((fail_if_success (refine RunU.doit (rd := []) (up := []) rfl rfl ?_ ?_)); first
                      | refine RunU.guard_dec rfl rfl (fun _ => ?_) (fun _ => ?_)
                      | refine RunU.guard_not rfl rfl (fun _ => ?_) (fun _ => ?_)
                      | refine RunU.guard rfl rfl (fun _ => ?_) (fun _ => ?_))
                    )
                  | refine Then.next ?_
                  | refine InBlock.next ?_
                  | refine Done.ret (.one (by first | exact .c rfl | exact .own rfl | exact .als rfl rfl | exact .ptr rfl rfl | exact .part rfl rfl rfl) (.one (by first | exact .c rfl | exact .own rfl | exact .als rfl rfl | exact .ptr rfl rfl | exact .part rfl rfl rfl) .nil)) (.sh .nil) ?_ rfl
                  | refine Done.normal (.one (by first | exact .c rfl | exact .own rfl | exact .als rfl rfl | exact .ptr rfl rfl | exact .part rfl rfl rfl) (.one (by first | exact .c rfl | exact .own rfl | exact .als rfl rfl | exact .ptr rfl rfl | exact .part rfl rfl rfl) .nil)) (.sh .nil) ?_ rfl)
              exact ⟨j + 1, by omega, ⟨_, rfl, rfl, int_eq (by omega), trivial⟩, by omega⟩
    · obtain rfl : j = l.length := by omega
      repeat' (first
          | (guard_target =~ WpA _ _ _ _ _ _; first
            | refine WpA.seq ?_
            | refine WpA.drawU ?_
            | refine WpA.regionU ?_
            | refine WpA.block ?_
            | refine WpA.ret ?_
            | refine WpA.skip ?_
            | refine WpA.exit ?_
            | refine WpA.cond_true rfl ?_
            | refine WpA.cond_false rfl ?_
            | refine WpA.cond_ntrue rfl ?_
            | refine WpA.cond_dec rfl (fun _ => ?_) (fun _ => ?_)
            | refine WpA.cond_not rfl (fun _ => ?_) (fun _ => ?_)
            | refine WpA.cond rfl (fun _ => ?_) (fun _ => ?_)
            )
          | (guard_target =~ RunU _ _ _ _ [] _ _ _ _; first
            | refine RunU.nilL ?_
            | refine RunU.nilD (by kernel_rfl) ?_
            )
          | (guard_target =~ RunU _ _ _ _ (Oper.mk _ _ _ _ _ none :: _) _ _ _ _; refine RunU.cons step_any ?_)
          | (guard_target =~ RunU _ _ _ _ (Oper.mk _ _ _ _ _ (some _) :: _) _ _ _ _; first
            | refine RunU.pass rfl rfl rfl rfl ?_
            | refine RunU.pass_undef rfl rfl rfl ?_
            | refine RunU.doit rfl rfl step_any ?_
            | ((fail_if_success (refine RunU.doit (rd := []) (up := []) rfl rfl ?_ ?_)); first
              | refine RunU.guard_dec rfl rfl (fun _ => ?_) (fun _ => ?_)
              | refine RunU.guard_not rfl rfl (fun _ => ?_) (fun _ => ?_)
              | refine RunU.guard rfl rfl (fun _ => ?_) (fun _ => ?_))
            )
          | refine Then.next ?_
          | refine InBlock.next ?_
          | refine Done.ret (.one (by first | exact .c rfl | exact .own rfl | exact .als rfl rfl | exact .ptr rfl rfl | exact .part rfl rfl rfl) (.one (by first | exact .c rfl | exact .own rfl | exact .als rfl rfl | exact .ptr rfl rfl | exact .part rfl rfl rfl) .nil)) (.sh .nil) ?_ rfl
          | refine Done.normal (.one (by first | exact .c rfl | exact .own rfl | exact .als rfl rfl | exact .ptr rfl rfl | exact .part rfl rfl rfl) (.one (by first | exact .c rfl | exact .own rfl | exact .als rfl rfl | exact .ptr rfl rfl | exact .part rfl rfl rfl) .nil)) (.sh .nil) ?_ rfl)
      all_goals first | (exfalso; omega) | simp only [eoL, eoC, if_pos h]
  · repeat' (first
        | (guard_target =~ WpA _ _ _ _ _ _; first
          | refine WpA.seq ?_
          | refine WpA.drawU ?_
          | refine WpA.regionU ?_
          | refine WpA.block ?_
          | refine WpA.ret ?_
          | refine WpA.skip ?_
          | refine WpA.exit ?_
          | refine WpA.cond_true rfl ?_
          | refine WpA.cond_false rfl ?_
          | refine WpA.cond_ntrue rfl ?_
          | refine WpA.cond_dec rfl (fun _ => ?_) (fun _ => ?_)
          | refine WpA.cond_not rfl (fun _ => ?_) (fun _ => ?_)
          | refine WpA.cond rfl (fun _ => ?_) (fun _ => ?_)
          )
        | (guard_target =~ RunU _ _ _ _ [] _ _ _ _; first
          | refine RunU.nilL ?_
          | refine RunU.nilD (by kernel_rfl) ?_
          )
        | (guard_target =~ RunU _ _ _ _ (Oper.mk _ (Op.call ⟨Callee.value _, _, _⟩) _ _ _ none :: _) _ _ _ _; first
          | refine RunU.cons (step_call (specIs_c b l hl) (.sh .nil) (.shAgg rfl aggs_any .nil) rfl) ?_
          )
        | (guard_target =~ RunU _ _ _ _ (Oper.mk _ _ _ _ _ none :: _) _ _ _ _; refine RunU.cons step_any ?_)
        | (guard_target =~ RunU _ _ _ _ (Oper.mk _ _ _ _ _ (some _) :: _) _ _ _ _; first
          | refine RunU.pass rfl rfl rfl rfl ?_
          | refine RunU.pass_undef rfl rfl rfl ?_
          | (guard_target =~ RunU _ _ _ _ (Oper.mk _ (Op.call ⟨Callee.value _, _, _⟩) _ _ _ _ :: _) _ _ _ _; first
            | refine RunU.doit rfl rfl (step_call (specIs_c b l hl) (.sh .nil) (.shAgg rfl aggs_any .nil) rfl) ?_
            )
          | refine RunU.doit rfl rfl step_any ?_
          | ((fail_if_success (refine RunU.doit (rd := []) (up := []) rfl rfl ?_ ?_)); first
            | refine RunU.guard_dec rfl rfl (fun _ => ?_) (fun _ => ?_)
            | refine RunU.guard_not rfl rfl (fun _ => ?_) (fun _ => ?_)
            | refine RunU.guard rfl rfl (fun _ => ?_) (fun _ => ?_))
          )
        | refine Then.next ?_
        | refine InBlock.next ?_
        | refine Done.ret (.one (by first | exact .c rfl | exact .own rfl | exact .als rfl rfl | exact .ptr rfl rfl | exact .part rfl rfl rfl) (.one (by first | exact .c rfl | exact .own rfl | exact .als rfl rfl | exact .ptr rfl rfl | exact .part rfl rfl rfl) .nil)) (.sh .nil) ?_ rfl
        | refine Done.normal (.one (by first | exact .c rfl | exact .own rfl | exact .als rfl rfl | exact .ptr rfl rfl | exact .part rfl rfl rfl) (.one (by first | exact .c rfl | exact .own rfl | exact .als rfl rfl | exact .ptr rfl rfl | exact .part rfl rfl rfl) .nil)) (.sh .nil) ?_ rfl)
    all_goals first | (exact absurd ‹_› h) | (simp only [eoL, eoC, if_neg h]; rfl)
end Go.Proofs.Ytljhfjfccbpddaa
