/- Reduced spectra: what the program's and the reference's makers of spectra compute. No condition. -/
import Derived.Test.YtfkhngjkpjcdfaaNuA
namespace Go.Proofs.Ytfkhngjkpjcdfaa
set_option maxHeartbeats 2000000
set_option linter.unusedVariables false
set_option linter.unusedSimpArgs false
open Go.Pv
open Go.ChangeShapes Go.WideShapes Go.ChangeAt Go.RowKit
attribute [local irreducible] RunU WpA Step CallG Done
instance fnOk71 : FnOk Try.prog 71 := ⟨_, Try.func71, rfl, by decide⟩
instance fnOk70 : FnOk Try.prog 70 := ⟨_, Try.func70, rfl, by decide⟩
instance fnOk76 : FnOk Try.prog 76 := ⟨_, Try.func76, rfl, by decide⟩
instance fnOk134 : FnOk Try.prog 134 := ⟨_, Try.func134, rfl, by decide⟩
instance fnOk77 : FnOk Try.prog 77 := ⟨_, Try.func77, rfl, by decide⟩
abbrev vI (x : Int) : AV := .c (.lit (.int .i64 x))
abbrev vL (l : List Int) : AV := .c (.sl false 1 (ints l))
abbrev dI (x : Int) : D := .lit (.int .i64 x)
abbrev dL (l : List Int) : D := .sl true 1 (ints l)
/-- The common divisor of b and the first j numbers. -/
def gTo (b : Int) (l : List Int) : Nat → Int
  | 0 => b
  | j + 1 => (Int.gcd (gTo b l j) (l.getD j 0) : Int)
theorem gTo_bound {b : Int} (l : List Int) (hb : 0 < b) : ∀ j, 0 < gTo b l j ∧ gTo b l j ≤ b
  | 0 => by simp [gTo, hb]
  | j + 1 => by
    have h1 := gTo_bound l hb j
    have h2 := Int.gcd_pos_of_ne_zero_left (l.getD j 0) (show gTo b l j ≠ 0 by omega)
    have h3 := Int.gcd_le_left (b := l.getD j 0) h1.1
    simp only [gTo]
    omega
/-- Where x is put among the first k numbers. -/
def posOf (l : List Int) (x : Int) : Nat → Nat
  | 0 => 0
  | k + 1 => if x < l.getD k 0 then posOf l x k else k + 1
theorem posOf_le (l : List Int) (x : Int) : ∀ k, posOf l x k ≤ k
  | 0 => by simp [posOf]
  | k + 1 => by
    have := posOf_le l x k
    simp only [posOf]
    split <;> omega
def insAt (l : List Int) (x : Int) : List Int := l.take (posOf l x l.length) ++ x :: l.drop (posOf l x l.length)
theorem insAt_len (l : List Int) (x : Int) : (insAt l x).length = l.length + 1 := by
  have := posOf_le l x l.length
  simp only [insAt, List.length_append, List.length_take, List.length_cons, List.length_drop]
  omega
def insTo (g : Int) (l : List Int) : Nat → List Int
  | 0 => []
  | j + 1 => insAt (insTo g l j) (l.getD j 0 / g)
theorem insTo_len (g : Int) (l : List Int) : ∀ j, (insTo g l j).length = j
  | 0 => rfl
  | j + 1 => by rw [insTo, insAt_len, insTo_len g l j]
theorem own_sp {id : Nat} {b b' : Int} {l l' : List Int} (h : b = b') (h2 : l = l') : AV.own id (.pt true [dI b, dL l]) = AV.own id (.pt true [dI b', dL l']) := by rw [h, h2]
def Tops (l : List Int) : Prop := ∀ i, 0 ≤ l.getD i 0 ∧ l.getD i 0 ≤ 4000000000000
def mkB (b : Int) (l : List Int) : Int := if b > 1000000 ∨ l.length > 400 then 0 else b / gTo b l l.length
def mkS (b : Int) (l : List Int) : List Int := if b > 1000000 ∨ l.length > 400 then [] else insTo (gTo b l l.length) l l.length
def mkC (b : Int) (l : List Int) : Int := if b > 1000000 ∨ l.length > 400 then 3 else 0
theorem l18Make_c (b : Int) (l : List Int) (hb : 0 < b) (hb2 : b ≤ 4000000000000) (hl : l.length ≤ 1000000) (ht : Tops l) : CallA Try.prog 71 [aI b, aL l] [rSp (mkB b l) (mkS b l), rI (mkC b l)] [] := by
  refine callA_of _ Try.func71 rfl Try.ntmps71 (by first | exact ⟨rfl, rfl⟩ | (simp only [List.all_cons, List.all_nil, V.solid, D.solid, D.solids, solids_ints, solids_LL, Bool.and_self, Bool.and_true, and_self]; done) | simp [V.solid, D.solid, D.solids, solids_lits, solids_ints, solids_LL]) ?_
  repeat' (first
      | (guard_target =~ WpA _ _ _ _ _ _; first
        | refine WpA.seq ?_
        | refine WpA.drawU ?_
        | refine WpA.regionU ?_
        | refine WpA.block ?_
        | refine WpA.ret ?_
        | refine WpA.skip ?_
        | refine WpA.exit ?_
        | refine WpA.cond_true rfl ?_
        | refine WpA.cond_false rfl ?_
        | refine WpA.cond_ntrue rfl ?_
        | refine WpA.cond_dec rfl (fun _ => ?_) (fun _ => ?_)
        | refine WpA.cond_not rfl (fun _ => ?_) (fun _ => ?_)
        | refine WpA.cond rfl (fun _ => ?_) (fun _ => ?_)
        )
      | (guard_target =~ RunU _ _ _ _ [] _ _ _ _; first
        | refine RunU.nilL ?_
        | refine RunU.nilD (by kernel_rfl) ?_
        )
      | (guard_target =~ RunU _ _ _ _ (Oper.mk _ _ _ _ _ none :: _) _ _ _ _; refine RunU.cons step_any ?_)
      | (guard_target =~ RunU _ _ _ _ (Oper.mk _ _ _ _ _ (some _) :: _) _ _ _ _; first
        | refine RunU.pass rfl rfl rfl rfl ?_
        | refine RunU.pass_undef rfl rfl rfl ?_
        | refine RunU.doit rfl rfl step_any ?_
        | refine RunU.guard_dec rfl rfl (fun _ => ?_) (fun _ => ?_)
        | refine RunU.guard_not rfl rfl (fun _ => ?_) (fun _ => ?_)
        | refine RunU.guard rfl rfl (fun _ => ?_) (fun _ => ?_)
        )
      | refine Then.next ?_
      | refine InBlock.next ?_
      | refine Done.ret (.cell inferInstance rfl rfl (.one (by first | exact .c rfl | exact .own rfl | exact .als rfl rfl | exact .ptr rfl rfl | exact .part rfl rfl rfl) .nil)) (.sh (.sh .nil)) ?_ rfl
      | refine Done.normal (.cell inferInstance rfl rfl (.one (by first | exact .c rfl | exact .own rfl | exact .als rfl rfl | exact .ptr rfl rfl | exact .part rfl rfl rfl) .nil)) (.sh (.sh .nil)) ?_ rfl)
  case refine_1 h => simp only [mkB, mkS, mkC, if_pos (Or.inl h : b > 1000000 ∨ l.length > 400)]; rfl
  case refine_2.refine_1 h h2 => simp only [mkB, mkS, mkC, if_pos (Or.inr (by omega) : b > 1000000 ∨ l.length > 400)]; rfl
  case refine_2.refine_2 h1 h2 =>
    have hn : ¬ (b > 1000000 ∨ l.length > 400) := by omega
    refine WpA.loop_slots (ι := Nat) (fun j => [(0, vI b), (1, vL l), (4, .own 2 (.pt true [dI 0, dL []])), (5, vI 0), (6, vI (gTo b l j)), (7, vI j)]) (fun j => j ≤ l.length) (fun j => l.length - j) 0 (by simp) ⟨rfl, rfl, rfl, rfl, rfl, rfl, trivial⟩ ?_
    intro j s nx hj
    have hg := gTo_bound l hb j
    have htj := ht (j * 1)
    repeat' (first
        | (guard_target =~ WpA _ _ _ _ _ _; first
          | refine WpA.seq ?_
          | refine WpA.drawU ?_
          | refine WpA.regionU ?_
          | refine WpA.block ?_
          | refine WpA.ret ?_
          | refine WpA.skip ?_
          | refine WpA.exit ?_
          | refine WpA.cond_true rfl ?_
          | refine WpA.cond_false rfl ?_
          | refine WpA.cond_ntrue rfl ?_
          | refine WpA.cond_dec rfl (fun _ => ?_) (fun _ => ?_)
          | refine WpA.cond_not rfl (fun _ => ?_) (fun _ => ?_)
          | refine WpA.cond rfl (fun _ => ?_) (fun _ => ?_)
          )
        | (guard_target =~ RunU _ _ _ _ [] _ _ _ _; first
          | refine RunU.nilL ?_
          | refine RunU.nilD (by kernel_rfl) ?_
          )
        | (guard_target =~ RunU _ _ _ _ (Oper.mk _ (Op.call ⟨Callee.value _, _, _⟩) _ _ _ none :: _) _ _ _ _; first
          | refine RunU.cons (step_call (gcd_c (gTo b l j) (l.getD (j * 1) 0) (by omega) (by omega)) (.sh (.sh .nil)) (.sh shows_any (.sh shows_any .nil)) rfl) ?_
          )
        | (guard_target =~ RunU _ _ _ _ (Oper.mk _ _ _ _ _ none :: _) _ _ _ _; refine RunU.cons step_any ?_)
        | (guard_target =~ RunU _ _ _ _ (Oper.mk _ _ _ _ _ (some _) :: _) _ _ _ _; first
          | refine RunU.pass rfl rfl rfl rfl ?_
          | refine RunU.pass_undef rfl rfl rfl ?_
          | (guard_target =~ RunU _ _ _ _ (Oper.mk _ (Op.call ⟨Callee.value _, _, _⟩) _ _ _ _ :: _) _ _ _ _; first
            | refine RunU.doit rfl rfl (step_call (gcd_c (gTo b l j) (l.getD (j * 1) 0) (by omega) (by omega)) (.sh (.sh .nil)) (.sh shows_any (.sh shows_any .nil)) rfl) ?_
            )
          | refine RunU.doit rfl rfl step_any ?_
          | refine RunU.guard_dec rfl rfl (fun _ => ?_) (fun _ => ?_)
          | refine RunU.guard_not rfl rfl (fun _ => ?_) (fun _ => ?_)
          | refine RunU.guard rfl rfl (fun _ => ?_) (fun _ => ?_)
          )
        | refine Then.next ?_
        | refine InBlock.next ?_
        | refine Done.ret (.cell inferInstance rfl rfl (.one (by first | exact .c rfl | exact .own rfl | exact .als rfl rfl | exact .ptr rfl rfl | exact .part rfl rfl rfl) .nil)) (.sh (.sh .nil)) ?_ rfl
        | refine Done.normal (.cell inferInstance rfl rfl (.one (by first | exact .c rfl | exact .own rfl | exact .als rfl rfl | exact .ptr rfl rfl | exact .part rfl rfl rfl) .nil)) (.sh (.sh .nil)) ?_ rfl)
    case refine_1 h3 =>
      have e : (((gTo b l j).gcd (l.getD (j * 1) 0) : Nat) : Int) = gTo b l (j + 1) := by rw [Nat.mul_one]; rfl
      exact ⟨j + 1, by omega, ⟨rfl, rfl, rfl, rfl, int_eq e, int_eq (by omega), trivial⟩, by omega⟩
    case refine_2 h3 =>
      have e : j = l.length := by omega
      subst e
      generalize hgg : gTo b l l.length = gg at *
      refine WpA.loop_slots2 (fun j id => [(1, vL l), (4, .own 2 (.pt true [dI 0, dL []])), (5, vI 0), (6, vI gg), (8, .own id (.pt true [dI (b / gg), dL (insTo gg l j)])), (9, vI j)]) (fun j => j ≤ l.length) (fun j => l.length - j) 0 _ (by simp) ⟨rfl, rfl, rfl, rfl, by exact rfl, rfl, trivial⟩ ?_
      intro j id s nx hj
      by_cases hlt : j < l.length
      · have htj := ht (j * 1)
        have hil := insTo_len gg l j
        generalize hls : insTo gg l j = ls at *
        repeat' (first
            | (guard_target =~ WpA _ _ _ _ _ _; first
              | refine WpA.seq ?_
              | refine WpA.drawU ?_
              | refine WpA.regionU ?_
              | refine WpA.block ?_
              | refine WpA.ret ?_
              | refine WpA.skip ?_
              | refine WpA.exit ?_
              | refine WpA.cond_true rfl ?_
              | refine WpA.cond_false rfl ?_
              | refine WpA.cond_ntrue rfl ?_
              | refine WpA.cond_dec rfl (fun _ => ?_) (fun _ => ?_)
              | refine WpA.cond_not rfl (fun _ => ?_) (fun _ => ?_)
              | refine WpA.cond rfl (fun _ => ?_) (fun _ => ?_)
              )
            | (guard_target =~ RunU _ _ _ _ [] _ _ _ _; first
              | refine RunU.nilL ?_
              | refine RunU.nilD (by kernel_rfl) ?_
              )
            | (guard_target =~ RunU _ _ _ _ (Oper.mk _ _ _ _ _ none :: _) _ _ _ _; refine RunU.cons step_any ?_)
            | (guard_target =~ RunU _ _ _ _ (Oper.mk _ _ _ _ _ (some _) :: _) _ _ _ _; first
              | refine RunU.pass rfl rfl rfl rfl ?_
              | refine RunU.pass_undef rfl rfl rfl ?_
              | refine RunU.doit rfl rfl step_any ?_
              | refine RunU.guard_dec rfl rfl (fun _ => ?_) (fun _ => ?_)
              | refine RunU.guard_not rfl rfl (fun _ => ?_) (fun _ => ?_)
              | refine RunU.guard rfl rfl (fun _ => ?_) (fun _ => ?_)
              )
            | refine Then.next ?_
            | refine InBlock.next ?_
            | refine Done.ret (.cell inferInstance rfl rfl (.one (by first | exact .c rfl | exact .own rfl | exact .als rfl rfl | exact .ptr rfl rfl | exact .part rfl rfl rfl) .nil)) (.sh (.sh .nil)) ?_ rfl
            | refine Done.normal (.cell inferInstance rfl rfl (.one (by first | exact .c rfl | exact .own rfl | exact .als rfl rfl | exact .ptr rfl rfl | exact .part rfl rfl rfl) .nil)) (.sh (.sh .nil)) ?_ rfl)
        case refine_2 h4 => exact absurd hlt (by omega)
        case refine_1 h4 =>
          generalize hx : l.getD (j * 1) 0 / gg = x
          refine WpA.loop_slots (ι := Nat) (fun k => [(1, vL l), (4, .own 2 (.pt true [dI 0, dL []])), (5, vI 0), (6, vI gg), (8, .own id (.pt true [dI (b / gg), dL ls])), (9, vI j), (10, vI x), (11, vI k)]) (fun k => k ≤ ls.length ∧ posOf ls x k = posOf ls x ls.length) (fun k => k) ls.length ⟨Nat.le_refl _, rfl⟩ ⟨rfl, rfl, rfl, rfl, rfl, rfl, rfl, rfl, trivial⟩ ?_
          intro k s nx hk
          have stop : posOf ls x k = k → [] ++ List.take (k - 0) (List.drop 0 ls) ++ ([x] ++ List.take (ls.length - k) (List.drop k ls)) = insTo gg l (j + 1) := fun e => by
            rw [insTo, hls, ← Nat.mul_one j, hx, insAt, ← hk.2, e, List.take_of_length_le (l := ls.drop k) (by rw [List.length_drop]; omega)]
            simp
          repeat' (first
              | (guard_target =~ WpA _ _ _ _ _ _; first
                | refine WpA.seq ?_
                | refine WpA.drawU ?_
                | refine WpA.regionU ?_
                | refine WpA.block ?_
                | refine WpA.ret ?_
                | refine WpA.skip ?_
                | refine WpA.exit ?_
                | refine WpA.cond_true rfl ?_
                | refine WpA.cond_false rfl ?_
                | refine WpA.cond_ntrue rfl ?_
                | refine WpA.cond_dec rfl (fun _ => ?_) (fun _ => ?_)
                | refine WpA.cond_not rfl (fun _ => ?_) (fun _ => ?_)
                | refine WpA.cond rfl (fun _ => ?_) (fun _ => ?_)
                )
              | (guard_target =~ RunU _ _ _ _ [] _ _ _ _; first
                | refine RunU.nilL ?_
                | refine RunU.nilD (by kernel_rfl) ?_
                )
              | (guard_target =~ RunU _ _ _ _ (Oper.mk _ _ _ _ _ none :: _) _ _ _ _; refine RunU.cons step_any ?_)
              | (guard_target =~ RunU _ _ _ _ (Oper.mk _ _ _ _ _ (some _) :: _) _ _ _ _; first
                | refine RunU.pass rfl rfl rfl rfl ?_
                | refine RunU.pass_undef rfl rfl rfl ?_
                | refine RunU.doit rfl rfl step_any ?_
                | refine RunU.guard_dec rfl rfl (fun _ => ?_) (fun _ => ?_)
                | refine RunU.guard_not rfl rfl (fun _ => ?_) (fun _ => ?_)
                | refine RunU.guard rfl rfl (fun _ => ?_) (fun _ => ?_)
                )
              | refine Then.next ?_
              | refine InBlock.next ?_
              | refine Done.ret (.cell inferInstance rfl rfl (.one (by first | exact .c rfl | exact .own rfl | exact .als rfl rfl | exact .ptr rfl rfl | exact .part rfl rfl rfl) .nil)) (.sh (.sh .nil)) ?_ rfl
              | refine Done.normal (.cell inferInstance rfl rfl (.one (by first | exact .c rfl | exact .own rfl | exact .als rfl rfl | exact .ptr rfl rfl | exact .part rfl rfl rfl) .nil)) (.sh (.sh .nil)) ?_ rfl)
          case refine_1.refine_1 h5 h6 =>
            obtain ⟨q, rfl⟩ : ∃ q, k = q + 1 := ⟨k - 1, by omega⟩
            have e1 : (((q + 1 : Nat) : Int) - 1).toNat * 1 = q := by omega
            rw [e1] at h6
            refine ⟨q, ⟨by omega, ?_⟩, ⟨rfl, rfl, rfl, rfl, rfl, rfl, rfl, int_eq (by omega), trivial⟩, by omega⟩
            rw [← hk.2, posOf, if_pos h6]
          case refine_1.refine_2 h5 h6 =>
            obtain ⟨q, rfl⟩ : ∃ q, k = q + 1 := ⟨k - 1, by omega⟩
            have e1 : (((q + 1 : Nat) : Int) - 1).toNat * 1 = q := by omega
            rw [e1] at h6
            have e2 := stop (by rw [posOf, if_neg h6])
            exact ⟨j + 1, by omega, ⟨_, rfl, rfl, rfl, rfl, by exact own_sp rfl e2, int_eq (by omega), trivial⟩, by omega⟩
          case refine_2 h5 =>
            obtain rfl : k = 0 := by omega
            have e2 := stop rfl
            exact ⟨j + 1, by omega, ⟨_, rfl, rfl, rfl, rfl, by exact own_sp rfl e2, int_eq (by omega), trivial⟩, by omega⟩
      · have e : j = l.length := by omega
        subst e
        repeat' (first
            | (guard_target =~ WpA _ _ _ _ _ _; first
              | refine WpA.seq ?_
              | refine WpA.drawU ?_
              | refine WpA.regionU ?_
              | refine WpA.block ?_
              | refine WpA.ret ?_
              | refine WpA.skip ?_
              | refine WpA.exit ?_
              | refine WpA.cond_true rfl ?_
              | refine WpA.cond_false rfl ?_
              | refine WpA.cond_ntrue rfl ?_
              | refine WpA.cond_dec rfl (fun _ => ?_) (fun _ => ?_)
              | refine WpA.cond_not rfl (fun _ => ?_) (fun _ => ?_)
              | refine WpA.cond rfl (fun _ => ?_) (fun _ => ?_)
              )
            | (guard_target =~ RunU _ _ _ _ [] _ _ _ _; first
              | refine RunU.nilL ?_
              | refine RunU.nilD (by kernel_rfl) ?_
              )
            | (guard_target =~ RunU _ _ _ _ (Oper.mk _ _ _ _ _ none :: _) _ _ _ _; refine RunU.cons step_any ?_)
            | (guard_target =~ RunU _ _ _ _ (Oper.mk _ _ _ _ _ (some _) :: _) _ _ _ _; first
              | refine RunU.pass rfl rfl rfl rfl ?_
              | refine RunU.pass_undef rfl rfl rfl ?_
              | refine RunU.doit rfl rfl step_any ?_
              | refine RunU.guard_dec rfl rfl (fun _ => ?_) (fun _ => ?_)
              | refine RunU.guard_not rfl rfl (fun _ => ?_) (fun _ => ?_)
              | refine RunU.guard rfl rfl (fun _ => ?_) (fun _ => ?_)
              )
            | refine Then.next ?_
            | refine InBlock.next ?_
            | refine Done.ret (.cell inferInstance rfl rfl (.one (by first | exact .c rfl | exact .own rfl | exact .als rfl rfl | exact .ptr rfl rfl | exact .part rfl rfl rfl) .nil)) (.sh (.sh .nil)) ?_ rfl
            | refine Done.normal (.cell inferInstance rfl rfl (.one (by first | exact .c rfl | exact .own rfl | exact .als rfl rfl | exact .ptr rfl rfl | exact .part rfl rfl rfl) .nil)) (.sh (.sh .nil)) ?_ rfl)
        case refine_1 h4 => exact absurd h4 (by omega)
        case refine_2 h4 =>
          simp only [mkB, mkS, mkC, if_neg hn, hgg]
          rfl
end Go.Proofs.Ytfkhngjkpjcdfaa
