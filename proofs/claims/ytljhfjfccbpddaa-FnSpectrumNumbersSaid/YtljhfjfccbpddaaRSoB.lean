/- Reduced spectra: what the program's makers of spectra compute. No condition. -/
import Derived.Test.YtljhfjfccbpddaaRNuA
namespace Go.Proofs.Ytljhfjfccbpddaa
set_option maxHeartbeats 20000000
set_option linter.unusedVariables false
set_option linter.unusedSimpArgs false
open Go.Pv
open Go.ChangeShapes Go.WideShapes Go.ChangeAt Go.RowKit
attribute [local irreducible] RunU WpA Step CallG CallNG Done DoneN
instance fnOk63 : FnOk Try.prog 63 := ⟨_, Try.func63, rfl, by decide⟩
abbrev srt (l : List Int) : List Int := l.mergeSort fun x y => decide (x ≤ y)
theorem sort_c (l : List Int) (h : l.length ≤ 1000000000) : CallA Try.prog 63 [.io (.sl true 1 (ints l))] [] [.sl true 1 (ints (srt l))] :=
  sort_io (fun _ => rfl) (List.length_mergeSort l) (fun blk cap w hH hb => AnyG.slices_Sort_int sort64 blk 0 cap l w hH hb (by omega)) (AnyG.slices_Sort_int_none sort64)
def qTo (g : Int) (l : List Int) (j : Nat) : List Int := (l.take j).map fun x => x / g
theorem qTo_len (g : Int) (l : List Int) (j : Nat) (h : j ≤ l.length) : (qTo g l j).length = j := by simp [qTo]; omega
theorem qTo_step (g : Int) (l : List Int) (j : Nat) (h : j < l.length) : qTo g l j ++ [l.getD j 0 / g] = qTo g l (j + 1) := by
  unfold qTo
  rw [List.take_add_one, List.getElem?_eq_getElem h, List.map_append, List.getD_eq_getElem?_getD, List.getElem?_eq_getElem h]
  simp
def rdS (b : Int) (l : List Int) : List Int := srt (qTo (gTo b l l.length) l l.length)
theorem reduced_c (b : Int) (l : List Int) (hb : 0 < b) (hb2 : b ≤ 4000000000000) (hl : l.length ≤ 1000000) (ht : Tops l) : CallA Try.prog 42 [aI b, aL l] [rSp (b / gTo b l l.length) (rdS b l)] [] := by
  refine callA_of _ Try.func42 rfl Try.ntmps42 (by first | exact ⟨rfl, rfl⟩ | (simp only [List.all_cons, List.all_nil, V.solid, D.solid, D.solids, solids_ints, solids_bools, solids_LL, Bool.and_self, Bool.and_true, and_self]; done) | simp [V.solid, D.solid, D.solids, solids_lits, solids_ints, solids_bools, solids_LL]) ?_
  repeat' (first | (guard_target =~ WpA _ _ _ _ _ _; first | refine WpA.seq ?_ | refine WpA.drawU ?_ | refine WpA.regionU ?_ | refine WpA.block ?_ | refine WpA.ret ?_ | refine WpA.skip ?_ | refine WpA.exit ?_ | refine WpA.cond_true rfl ?_ | refine WpA.cond_false rfl ?_ | refine WpA.cond_ntrue rfl ?_ | refine WpA.cond_dec rfl (fun _ => ?_) (fun _ => ?_) | refine WpA.cond_not rfl (fun _ => ?_) (fun _ => ?_) | refine WpA.cond rfl (fun _ => ?_) (fun _ => ?_)) | (guard_target =~ RunU _ _ _ _ [] _ _ _ _; first | refine RunU.nilL ?_ | refine RunU.nilD (by kernel_rfl) ?_) | (guard_target =~ RunU _ _ _ _ (Oper.mk _ _ _ _ _ none :: _) _ _ _ _; refine RunU.cons step_any ?_) | refine Then.next ?_ | refine InBlock.next ?_ | refine Done.ret (.cell inferInstance rfl rfl .nil) (.sh (.sh .nil)) ?_ rfl)
  refine WpA.loop_slots (ι := Nat) (fun j => [(0, vI b), (1, vL l), (4, .own 2 (.pt true [dI 0, dL []])), (5, vI (gTo b l j)), (12, vL l), (13, vI l.length), (14, vI j)]) (fun j => j ≤ l.length) (fun j => l.length - j) 0 (by simp) ⟨rfl, rfl, rfl, rfl, rfl, rfl, rfl, trivial⟩ ?_
  intro j s nx hj
  have hg := gTo_bound l hb j
  have htj := ht (j * 1)
  repeat' (first | (guard_target =~ WpA _ _ _ _ _ _; first | refine WpA.seq ?_ | refine WpA.drawU ?_ | refine WpA.regionU ?_ | refine WpA.block ?_ | refine WpA.ret ?_ | refine WpA.skip ?_ | refine WpA.exit ?_ | refine WpA.cond_true rfl ?_ | refine WpA.cond_false rfl ?_ | refine WpA.cond_ntrue rfl ?_ | refine WpA.cond_dec rfl (fun _ => ?_) (fun _ => ?_) | refine WpA.cond_not rfl (fun _ => ?_) (fun _ => ?_) | refine WpA.cond rfl (fun _ => ?_) (fun _ => ?_)) | (guard_target =~ RunU _ _ _ _ [] _ _ _ _; first | refine RunU.nilL ?_ | refine RunU.nilD (by kernel_rfl) ?_) | (guard_target =~ RunU _ _ _ _ (Oper.mk _ (Op.call ⟨Callee.value _, _, _⟩) _ _ _ none :: _) _ _ _ _; first | refine RunU.cons (step_call (divisor_c (gTo b l j) (l.getD (j * 1) 0) (by omega) (by omega)) (.sh (.sh .nil)) (.sh shows_any (.sh shows_any .nil)) rfl) ?_) | (guard_target =~ RunU _ _ _ _ (Oper.mk _ _ _ _ _ none :: _) _ _ _ _; refine RunU.cons step_any ?_) | refine Then.next ?_ | refine InBlock.next ?_ | refine Done.ret (.cell inferInstance rfl rfl .nil) (.sh (.sh .nil)) ?_ rfl)
  case refine_1 h3 =>
    have e : (((gTo b l j).gcd (l.getD (j * 1) 0) : Nat) : Int) = gTo b l (j + 1) := by rw [Nat.mul_one]; rfl
    exact ⟨j + 1, by omega, ⟨rfl, rfl, rfl, int_eq e, rfl, rfl, int_eq (by omega), trivial⟩, by omega⟩
  case refine_2 h3 =>
    have e : j = l.length := by omega
    subst e
    generalize hgg : gTo b l l.length = gg at *
    refine WpA.loop_slots2 (fun j id => [(4, .own 2 (.pt true [dI 0, dL []])), (5, vI gg), (8, .own id (.pt true [dI (b / gg), dL (qTo gg l j)])), (27, vL l), (28, vI l.length), (29, vI j)]) (fun j => j ≤ l.length) (fun j => l.length - j) 0 _ (by simp) ⟨rfl, rfl, by exact rfl, rfl, rfl, rfl, trivial⟩ ?_
    intro j id s nx hj
    have htj := ht (j * 1)
    have hql := qTo_len gg l j hj
    repeat' (first | (guard_target =~ WpA _ _ _ _ _ _; first | refine WpA.seq ?_ | refine WpA.drawU ?_ | refine WpA.regionU ?_ | refine WpA.block ?_ | refine WpA.ret ?_ | refine WpA.skip ?_ | refine WpA.exit ?_ | refine WpA.cond_true rfl ?_ | refine WpA.cond_false rfl ?_ | refine WpA.cond_ntrue rfl ?_ | refine WpA.cond_dec rfl (fun _ => ?_) (fun _ => ?_) | refine WpA.cond_not rfl (fun _ => ?_) (fun _ => ?_) | refine WpA.cond rfl (fun _ => ?_) (fun _ => ?_)) | (guard_target =~ RunU _ _ _ _ [] _ _ _ _; first | refine RunU.nilL ?_ | refine RunU.nilD (by kernel_rfl) ?_) | (guard_target =~ RunU _ _ _ _ (Oper.mk _ (Op.call ⟨Callee.value _, _, _⟩) _ _ _ none :: _) _ _ _ _; first | refine RunU.cons (step_call_io0 (sort_c (qTo gg l j) (by omega)) io_any .nil .nil (by exact rfl) (by exact rfl) rfl) ?_) | (guard_target =~ RunU _ _ _ _ (Oper.mk _ _ _ _ _ none :: _) _ _ _ _; refine RunU.cons step_any ?_) | refine Then.next ?_ | refine InBlock.next ?_ | refine Done.ret (.cell inferInstance rfl rfl .nil) (.sh (.sh .nil)) ?_ rfl)
    case refine_1 h4 =>
      have e2 := qTo_step gg l j (by omega)
      have e3 : qTo gg l j ++ [l.getD (j * 1) 0 / gg] = qTo gg l (j + 1) := by rw [Nat.mul_one]; exact e2
      exact ⟨j + 1, by omega, ⟨_, rfl, rfl, by exact own_sp rfl e3, rfl, rfl, int_eq (by omega), trivial⟩, by omega⟩
    case refine_2 h4 =>
      have e : j = l.length := by omega
      subst e
      simp only [rdS, hgg]
      rfl
def lmB (b : Int) (l : List Int) : Int := if b > 1000000 ∨ l.length > 400 then 0 else b / gTo b l l.length
def lmS (b : Int) (l : List Int) : List Int := if b > 1000000 ∨ l.length > 400 then [] else rdS b l
theorem limited_c (b : Int) (l : List Int) (hb : 0 < b) (hb2 : b ≤ 4000000000000) (hl : l.length ≤ 1000000) (ht : Tops l) : CallA Try.prog 55 [aI b, aL l] [rSp (lmB b l) (lmS b l), rI (mkC b l)] [] := by
  refine callA_of _ Try.func55 rfl Try.ntmps55 (by first | exact ⟨rfl, rfl⟩ | (simp only [List.all_cons, List.all_nil, V.solid, D.solid, D.solids, solids_ints, solids_bools, solids_LL, Bool.and_self, Bool.and_true, and_self]; done) | simp [V.solid, D.solid, D.solids, solids_lits, solids_ints, solids_bools, solids_LL]) ?_
  repeat' (first | (guard_target =~ WpA _ _ _ _ _ _; first | refine WpA.seq ?_ | refine WpA.drawU ?_ | refine WpA.regionU ?_ | refine WpA.block ?_ | refine WpA.ret ?_ | refine WpA.skip ?_ | refine WpA.exit ?_ | refine WpA.cond_true rfl ?_ | refine WpA.cond_false rfl ?_ | refine WpA.cond_ntrue rfl ?_ | refine WpA.cond_dec rfl (fun _ => ?_) (fun _ => ?_) | refine WpA.cond_not rfl (fun _ => ?_) (fun _ => ?_) | refine WpA.cond rfl (fun _ => ?_) (fun _ => ?_)) | (guard_target =~ RunU _ _ _ _ [] _ _ _ _; first | refine RunU.nilL ?_ | refine RunU.nilD (by kernel_rfl) ?_) | (guard_target =~ RunU _ _ _ _ (Oper.mk _ (Op.call ⟨Callee.value _, _, _⟩) _ _ _ none :: _) _ _ _ _; first | refine RunU.cons (step_call (reduced_c b l hb hb2 hl ht) (.sh (.sh .nil)) (.sh shows_any (.sh shows_any .nil)) rfl) ?_) | (guard_target =~ RunU _ _ _ _ (Oper.mk _ _ _ _ _ none :: _) _ _ _ _; refine RunU.cons step_any ?_) | (guard_target =~ RunU _ _ _ _ (Oper.mk _ _ _ _ _ (some _) :: _) _ _ _ _; first | refine RunU.pass rfl rfl rfl rfl ?_ | refine RunU.pass_undef rfl rfl rfl ?_ | (guard_target =~ RunU _ _ _ _ (Oper.mk _ (Op.call ⟨Callee.value _, _, _⟩) _ _ _ _ :: _) _ _ _ _; first | refine RunU.doit rfl rfl (step_call (reduced_c b l hb hb2 hl ht) (.sh (.sh .nil)) (.sh shows_any (.sh shows_any .nil)) rfl) ?_) | refine RunU.doit rfl rfl step_any ?_ | ((fail_if_success (refine RunU.doit (rd := []) (up := []) rfl rfl ?_ ?_)); first | refine RunU.guard_dec rfl rfl (fun _ => ?_) (fun _ => ?_) | refine RunU.guard_not rfl rfl (fun _ => ?_) (fun _ => ?_) | refine RunU.guard rfl rfl (fun _ => ?_) (fun _ => ?_))) | refine Then.next ?_ | refine InBlock.next ?_ | refine Done.ret (.cell inferInstance rfl rfl (.one (by first | exact .c rfl | exact .own rfl | exact .als rfl rfl | exact .ptr rfl rfl | exact .part rfl rfl rfl) .nil)) (.sh (.sh .nil)) ?_ rfl)
  case refine_1 h => simp only [lmB, lmS, mkC, if_pos (Or.inl h : b > 1000000 ∨ l.length > 400)]; rfl
  case refine_2.refine_1 h h2 => simp only [lmB, lmS, mkC, if_pos (Or.inr (by omega) : b > 1000000 ∨ l.length > 400)]; rfl
  case refine_2.refine_2 h1 h2 => simp only [lmB, lmS, mkC, if_neg (show ¬ (b > 1000000 ∨ l.length > 400) by omega)]; rfl
theorem posOf_spec (l : List Int) (x : Int) : ∀ k, (∀ i, posOf l x k ≤ i → i < k → x < l.getD i 0) ∧ (0 < posOf l x k → ¬ x < l.getD (posOf l x k - 1) 0)
  | 0 => ⟨fun i _ h => absurd h (by omega), by simp [posOf]⟩
  | k + 1 => by
    have ih := posOf_spec l x k
    simp only [posOf]
    split
    · rename_i h
      refine ⟨fun i h1 h2 => ?_, ih.2⟩
      by_cases e : i = k
      · subst e; exact h
      · exact ih.1 i h1 (by omega)
    · rename_i h
      exact ⟨fun i h1 h2 => absurd h1 (by omega), fun _ => by simpa using h⟩
theorem insAt_perm (l : List Int) (x : Int) : (insAt l x).Perm (x :: l) := by
  unfold insAt
  refine List.perm_middle.trans ?_
  rw [List.take_append_drop]
theorem pw_getD {l : List Int} (h : l.Pairwise (· ≤ ·)) {i j : Nat} (hij : i ≤ j) (hj : j < l.length) : l.getD i 0 ≤ l.getD j 0 := by
  rcases Nat.eq_or_lt_of_le hij with rfl | hlt
  · exact Int.le_refl _
  · have := List.pairwise_iff_getElem.1 h i j (by omega) hj hlt
    simpa [List.getD, hj, show i < l.length by omega] using this
theorem insAt_sorted {l : List Int} (h : l.Pairwise (· ≤ ·)) (x : Int) : (insAt l x).Pairwise (· ≤ ·) := by
  have hs := posOf_spec l x l.length
  have hp := posOf_le l x l.length
  unfold insAt
  generalize posOf l x l.length = p at *
  rw [List.pairwise_append]
  refine ⟨h.sublist (List.take_sublist _ _), ?_, ?_⟩
  · rw [List.pairwise_cons]
    refine ⟨fun y hy => ?_, h.sublist (List.drop_sublist _ _)⟩
    obtain ⟨i, hi, rfl⟩ := List.getElem_of_mem hy
    rw [List.length_drop] at hi
    have := hs.1 (p + i) (by omega) (by omega)
    rw [List.getElem_drop]
    have e : l.getD (p + i) 0 = l[p + i] := by simp [List.getD, show p + i < l.length by omega]
    omega
  · intro a ha b hb
    obtain ⟨i, hi, rfl⟩ := List.getElem_of_mem ha
    rw [List.length_take] at hi
    have h1 := hs.2 (by omega)
    have h2 := pw_getD h (i := i) (j := p - 1) (by omega) (by omega)
    have e1 : l.getD i 0 = l[i] := by simp [List.getD, show i < l.length by omega]
    rw [List.getElem_take]
    rw [List.mem_cons] at hb
    rcases hb with rfl | hb
    · omega
    · obtain ⟨k, hk, rfl⟩ := List.getElem_of_mem hb
      rw [List.length_drop] at hk
      have := pw_getD h (i := i) (j := p + k) (by omega) (by omega)
      rw [List.getElem_drop]
      have e2 : l.getD (p + k) 0 = l[p + k] := by simp [List.getD, show p + k < l.length by omega]
      omega
theorem insTo_perm (g : Int) (l : List Int) : ∀ j, j ≤ l.length → (insTo g l j).Perm (qTo g l j)
  | 0, _ => by simp [insTo, qTo]
  | j + 1, h => by
    rw [insTo, ← qTo_step g l j h]
    refine (insAt_perm _ _).trans ?_
    refine ((insTo_perm g l j (by omega)).cons _).trans ?_
    exact (List.perm_append_comm (l₁ := [l.getD j 0 / g]) (l₂ := qTo g l j))
theorem insTo_sorted (g : Int) (l : List Int) : ∀ j, (insTo g l j).Pairwise (· ≤ ·)
  | 0 => by simp [insTo]
  | j + 1 => insAt_sorted (insTo_sorted g l j) _
theorem srt_sorted (l : List Int) : (srt l).Pairwise (· ≤ ·) := by
  have := List.pairwise_mergeSort (le := fun x y : Int => decide (x ≤ y)) (fun a b c h1 h2 => by simp at *; omega) (fun a b => by simp; omega) l
  exact this.imp fun h => by simpa using h
theorem sort_unique {l m : List Int} (hp : l.Perm m) (h1 : l.Pairwise (· ≤ ·)) (h2 : m.Pairwise (· ≤ ·)) : l = m :=
  hp.eq_of_pairwise (fun a c _ _ h1 h2 => Int.le_antisymm h1 h2) h1 h2
theorem make_eq (b : Int) (l : List Int) : lmS b l = mkS b l ∧ lmB b l = mkB b l := by
  unfold lmS mkS lmB mkB
  split
  · exact ⟨rfl, rfl⟩
  · refine ⟨?_, rfl⟩
    exact sort_unique ((List.mergeSort_perm _ _).trans (insTo_perm _ l l.length (Nat.le_refl _)).symm) (srt_sorted _) (insTo_sorted _ l l.length)
end Go.Proofs.Ytljhfjfccbpddaa
