/- Curves: what the reference takes for one. No condition. -/
import Derived.Test.YtinenidbgmddhaaGreatUCvE
import Derived.Test.YtinenidbgmddhaaGreatUCuG
import Derived.Test.YtinenidbgmddhaaGreatUBsC
set_option linter.unusedVariables false
set_option linter.unusedSimpArgs false
namespace Go.Proofs.YtinenidbgmddhaaGreat
set_option maxHeartbeats 20000000
open Go.Pv
open Go.ChangeShapes Go.WideShapes Go.ChangeAt Go.RowKit
attribute [local irreducible] RunU WpA Step CallG CallNG Done DoneN
instance fnOk36 : FnOk Tryz.prog 36 := ⟨_, Tryz.func36, rfl, by decide⟩
attribute [local irreducible] decStrict decFalls decIsBr decWithin Strict Falls IsBr Within
abbrev vCv (i : Nat) (B C : List (List Int)) : AV := .own i (.pt true [.sl false 1 (LLs B), .sl false 1 (LLs C)])
def CellS (B C : List (List Int)) (i k : Nat) : Prop :=
  (i = k → (C.getD i []).getD k 0 = 0) ∧ (i ≠ k → (1 ≤ (C.getD i []).getD k 0 ∧ (C.getD i []).getD k 0 ≤ 200) ∧ (C.getD i []).getD k 0 = (C.getD k []).getD i 0) ∧
    (i < k → Shr (codB (B.getD i [])) (codB (B.getD k [])) ((C.getD i []).getD k 0))
theorem isCu_iffS (B C : List (List Int)) : IsCu B C ↔ ((1 ≤ B.length ∧ B.length ≤ 6) ∧ C.length = B.length) ∧ (∀ i, i < B.length → IsBr (B.getD i []) ∧ (C.getD i []).length = B.length) ∧ (∀ i, i < B.length → ∀ k, k < B.length → CellS B C i k) ∧ UltT C B.length := by
  unfold IsCu IsTab RowT DiaT OffT SymT BrsT ShrT CellS
  constructor
  · rintro ⟨h1, ⟨h2, h3, h4, h5, h6⟩, h7, h8, h9⟩
    refine ⟨⟨h1, h2⟩, fun i hi => ⟨h7 i hi, h3 i hi⟩, fun i hi k hk => ⟨fun e => by rw [← e]; exact h4 i hi, fun e => ⟨h5 i hi k hk e, h6 i hi k hk⟩, fun e => h8 i hi k hk (by omega)⟩, h9⟩
  · rintro ⟨⟨h1, h2⟩, h3, h4, h9⟩
    have hsy : ∀ i, i < B.length → ∀ k, k < B.length → (C.getD i []).getD k 0 = (C.getD k []).getD i 0 := fun i hi k hk => by
      by_cases e : i = k
      · rw [e]
      · exact ((h4 i hi k hk).2.1 e).2
    refine ⟨h1, ⟨h2, fun i hi => (h3 i hi).2, fun i hi => (h4 i hi i hi).1 rfl, fun i hi k hk e => ((h4 i hi k hk).2.1 e).1, hsy⟩, fun i hi => (h3 i hi).1, fun i hi k hk e => ?_, h9⟩
    by_cases h : i < k
    · exact (h4 i hi k hk).2.2 h
    · rw [hsy i hi k hk]
      exact shr_symm.1 ((h4 k hk i hi).2.2 (by omega))
theorem cuS_row {B C : List (List Int)} {i : Nat} (hi : i < B.length) (h : ¬ (IsBr (B.getD i []) ∧ (C.getD i []).length = B.length)) : decide (IsCu B C) = false := decide_eq_false fun q => h (((isCu_iffS B C).1 q).2.1 i hi)
theorem cuS_cell {B C : List (List Int)} {i k : Nat} (hi : i < B.length) (hk : k < B.length) (h : ¬ CellS B C i k) : decide (IsCu B C) = false := decide_eq_false fun q => h (((isCu_iffS B C).1 q).2.2.1 i hi k hk)
theorem cuS_ult {B C : List (List Int)} {i k j : Nat} (hi : i < B.length) (hk : k < B.length) (hj : j < B.length) (h : ¬ Ult C i k j) : decide (IsCu B C) = false := decide_eq_false fun q => h (q.2.2.2.2 i hi k hk j hj)
set_option maxRecDepth 100000 in
theorem specIsCu_c (B C : List (List Int)) (hB : B.length ≤ 9223372036854775807) (hC : C.length ≤ 9223372036854775807) (hb : ∀ i, (B.getD i []).length ≤ 1000000000) (hr : ∀ i, (C.getD i []).length ≤ 9223372036854775807) : CallA Tryz.prog 36 [aCu B C] [rB (decide (IsCu B C))] [] := by
  by_cases hn : (1 ≤ B.length ∧ B.length ≤ 6) ∧ C.length = B.length
  · have hCl := hn.2
    refine callA_of _ Tryz.func36 rfl Tryz.ntmps36 solid_any ?_
    repeat' (first | refine Two.mk (fun _ => ?_) (fun _ => ?_) | refine goA ?_ | (guard_target =~ IsG; first | refine psA ?_ | refine gdA ?_) | (refine neA ?_; first | refine nxA ?_ | refine Done.ret (.one res_any .nil) (.sh .nil) ?_ rfl) | fail)
    all_goals try (exfalso; omega)
    refine WpA.loop_slots (ι := Nat) (fun i => [(1, vCv 1 B C), (3, vQJ B.length), (4, vQJ i)]) (fun i => i ≤ B.length ∧ ∀ p, p < i → IsBr (B.getD p []) ∧ (C.getD p []).length = B.length) (fun i => B.length - i) 0 ⟨by omega, fun p hp => by omega⟩ ⟨rfl, rfl, rfl, trivial⟩ ?_
    rintro i s nx ⟨hi, hok⟩
    by_cases hlt : i < B.length
    · have hI := specIsBr_c (B.getD (i * 1) []) (hb _)
      have hri := hr (i * 1)
      by_cases hbr : IsBr (B.getD (i * 1) [])
      · rw [decide_eq_true hbr] at hI
        by_cases hrl : (C.getD (i * 1) []).length = B.length
        · have hok2 : ∀ p, p < i + 1 → IsBr (B.getD p []) ∧ (C.getD p []).length = B.length := fun p hp => by
            by_cases e : p = i
            · subst e; rw [Nat.mul_one] at hbr hrl; exact ⟨hbr, hrl⟩
            · exact hok p (by omega)
          clear hok hbr hb hr
          repeat' (first | refine Two.mk (fun _ => ?_) (fun _ => ?_) | (guard_target =~ CallN_; first | refine RunU.cons (step_call (hI) (.sh .nil) (.shAgg rfl aggs_any .nil) rfl) ?_) | refine goA ?_ | (guard_target =~ IsG; first | refine psA ?_ | (guard_target =~ CallS_; first | refine RunU.doit rfl rfl (step_call (hI) (.sh .nil) (.shAgg rfl aggs_any .nil) rfl) ?_) | refine gdA ?_) | (refine neA ?_; first | refine nxA ?_ | refine Done.ret (.one res_any .nil) (.sh .nil) ?_ rfl) | fail)
          all_goals try (exfalso; omega)
          all_goals exact ⟨i + 1, ⟨by omega, hok2⟩, ⟨rfl, rfl, int_eq (by omega), trivial⟩, by omega⟩
        · rw [cuS_row hlt (fun h => hrl (by rw [Nat.mul_one]; exact h.2))]
          clear hok hbr hb hr
          repeat' (first | refine Two.mk (fun _ => ?_) (fun _ => ?_) | (guard_target =~ CallN_; first | refine RunU.cons (step_call (hI) (.sh .nil) (.shAgg rfl aggs_any .nil) rfl) ?_) | refine goA ?_ | (guard_target =~ IsG; first | refine psA ?_ | (guard_target =~ CallS_; first | refine RunU.doit rfl rfl (step_call (hI) (.sh .nil) (.shAgg rfl aggs_any .nil) rfl) ?_) | refine gdA ?_) | (refine neA ?_; first | refine nxA ?_ | refine Done.ret (.one res_any .nil) (.sh .nil) ?_ rfl) | fail)
          all_goals first | rfl | (exfalso; omega)
      · rw [decide_eq_false hbr] at hI
        rw [cuS_row hlt (fun h => hbr (by rw [Nat.mul_one]; exact h.1))]
        clear hok hbr hb hr
        repeat' (first | refine Two.mk (fun _ => ?_) (fun _ => ?_) | (guard_target =~ CallN_; first | refine RunU.cons (step_call (hI) (.sh .nil) (.shAgg rfl aggs_any .nil) rfl) ?_) | refine goA ?_ | (guard_target =~ IsG; first | refine psA ?_ | (guard_target =~ CallS_; first | refine RunU.doit rfl rfl (step_call (hI) (.sh .nil) (.shAgg rfl aggs_any .nil) rfl) ?_) | refine gdA ?_) | (refine neA ?_; first | refine nxA ?_ | refine Done.ret (.one res_any .nil) (.sh .nil) ?_ rfl) | fail)
        all_goals first | rfl | (exfalso; omega)
    · have hall : ∀ p, p < B.length → IsBr (B.getD p []) ∧ (C.getD p []).length = B.length := fun p hp => hok p (by omega)
      have hrow : ∀ p, p < B.length → (C.getD (p * 1) []).length = B.length := fun p hp => by rw [Nat.mul_one]; exact (hall p hp).2
      clear hok hb hr
      repeat' (first | refine Two.mk (fun _ => ?_) (fun _ => ?_) | refine goA ?_ | (guard_target =~ IsG; first | refine psA ?_ | refine gdA ?_) | (refine neA ?_; first | refine nxA ?_ | refine Done.ret (.one res_any .nil) (.sh .nil) ?_ rfl) | fail)
      all_goals try (exfalso; omega)
      refine WpA.loop_slots (ι := Nat) (fun i => [(1, vCv 1 B C), (3, vQJ B.length), (5, vQJ i)]) (fun i => i ≤ B.length ∧ ∀ p, p < i → ∀ q, q < B.length → CellS B C p q) (fun i => B.length - i) 0 ⟨by omega, fun p hp => by omega⟩ ⟨rfl, rfl, rfl, trivial⟩ ?_
      rintro i s nx ⟨hi, hcs⟩
      by_cases hlt2 : i < B.length
      · repeat' (first | refine Two.mk (fun _ => ?_) (fun _ => ?_) | refine goA ?_ | (guard_target =~ IsG; first | refine psA ?_ | refine gdA ?_) | (refine neA ?_; first | refine nxA ?_ | refine Done.ret (.one res_any .nil) (.sh .nil) ?_ rfl) | fail)
        all_goals try (exfalso; omega)
        refine WpA.loop_slots (ι := Nat) (fun k => [(1, vCv 1 B C), (3, vQJ B.length), (5, vQJ i), (6, vQJ k)]) (fun k => k ≤ B.length ∧ ∀ q, q < k → CellS B C i q) (fun k => B.length - k) 0 ⟨by omega, fun q hq => by omega⟩ ⟨rfl, rfl, rfl, rfl, trivial⟩ ?_
        rintro k s nx ⟨hk, hcell⟩
        by_cases hlt3 : k < B.length
        · have hl1 := hrow i hlt2
          have hl2 := hrow k hlt3
          have hnext : CellS B C i k → ∀ q, q < k + 1 → CellS B C i q := fun h q hq => by
            by_cases e : q = k
            · subst e; exact h
            · exact hcell q (by omega)
          have hno := fun h => cuS_cell hlt2 hlt3 (B := B) (C := C) h
          have hbi := (hall i hlt2).1
          have hbk := (hall k hlt3).1
          rw [← Nat.mul_one i] at hbi
          rw [← Nat.mul_one k] at hbk
          have hI := l01In_c ((C.getD (i * 1) []).getD (k * 1) 0) 1 200
          clear hcs hcell hall hrow
          by_cases e : i = k
          · by_cases hz : (C.getD (i * 1) []).getD (k * 1) 0 = 0
            · have hnext := hnext ⟨fun _ => by simpa only [Nat.mul_one] using hz, fun h => absurd e h, fun h => by omega⟩
              clear hno hbi hbk
              repeat' (first | refine Two.mk (fun _ => ?_) (fun _ => ?_) | refine goA ?_ | (guard_target =~ IsG; first | refine psA ?_ | refine gdA ?_) | (refine neA ?_; first | refine nxA ?_ | refine Done.ret (.one res_any .nil) (.sh .nil) ?_ rfl) | fail)
              all_goals try (exfalso; omega)
              all_goals exact ⟨k + 1, ⟨by omega, hnext⟩, ⟨rfl, rfl, rfl, int_eq (by omega), trivial⟩, by omega⟩
            · rw [hno (fun h => hz (by simpa only [Nat.mul_one] using h.1 e))]
              clear hno hbi hbk hnext
              repeat' (first | refine Two.mk (fun _ => ?_) (fun _ => ?_) | refine goA ?_ | (guard_target =~ IsG; first | refine psA ?_ | refine gdA ?_) | (refine neA ?_; first | refine nxA ?_ | refine Done.ret (.one res_any .nil) (.sh .nil) ?_ rfl) | fail)
              all_goals first | rfl | (exfalso; omega)
          · by_cases hx : 1 ≤ (C.getD (i * 1) []).getD (k * 1) 0 ∧ (C.getD (i * 1) []).getD (k * 1) 0 ≤ 200
            · rw [decide_eq_true hx] at hI
              by_cases hs : (C.getD (i * 1) []).getD (k * 1) 0 = (C.getD (k * 1) []).getD (i * 1) 0
              · by_cases hik : i < k
                · have hP := l09Pair_c (B.getD (i * 1) []) (B.getD (k * 1) []) hbi hbk ((C.getD (i * 1) []).getD (k * 1) 0) hx
                  by_cases hsh : Shr (codB (B.getD (i * 1) [])) (codB (B.getD (k * 1) [])) ((C.getD (i * 1) []).getD (k * 1) 0)
                  · rw [decide_eq_true hsh] at hP
                    have hnext := hnext ⟨fun h => absurd h e, fun _ => by simpa only [Nat.mul_one] using And.intro hx hs, fun _ => by simpa only [Nat.mul_one] using hsh⟩
                    clear hno hbi hbk hsh
                    repeat' (first | refine Two.mk (fun _ => ?_) (fun _ => ?_) | (guard_target =~ CallN_; first | refine RunU.cons (step_call (hI) (.sh (.sh (.sh .nil))) (.sh shows_any (.sh shows_any (.sh shows_any .nil))) rfl) ?_ | refine RunU.cons (step_call (hP) (.sh (.sh (.sh .nil))) (.shAgg rfl aggs_any (.shAgg rfl aggs_any (.sh shows_any .nil))) rfl) ?_) | refine goA ?_ | (guard_target =~ IsG; first | refine psA ?_ | (guard_target =~ CallS_; first | refine RunU.doit rfl rfl (step_call (hI) (.sh (.sh (.sh .nil))) (.sh shows_any (.sh shows_any (.sh shows_any .nil))) rfl) ?_ | refine RunU.doit rfl rfl (step_call (hP) (.sh (.sh (.sh .nil))) (.shAgg rfl aggs_any (.shAgg rfl aggs_any (.sh shows_any .nil))) rfl) ?_) | refine gdA ?_) | (refine neA ?_; first | refine nxA ?_ | refine Done.ret (.one res_any .nil) (.sh .nil) ?_ rfl) | fail)
                    all_goals try (exfalso; omega)
                    all_goals exact ⟨k + 1, ⟨by omega, hnext⟩, ⟨rfl, rfl, rfl, int_eq (by omega), trivial⟩, by omega⟩
                  · rw [decide_eq_false hsh] at hP
                    rw [hno (fun h => hsh (by simpa only [Nat.mul_one] using h.2.2 hik))]
                    clear hno hbi hbk hsh hnext
                    repeat' (first | refine Two.mk (fun _ => ?_) (fun _ => ?_) | (guard_target =~ CallN_; first | refine RunU.cons (step_call (hI) (.sh (.sh (.sh .nil))) (.sh shows_any (.sh shows_any (.sh shows_any .nil))) rfl) ?_ | refine RunU.cons (step_call (hP) (.sh (.sh (.sh .nil))) (.shAgg rfl aggs_any (.shAgg rfl aggs_any (.sh shows_any .nil))) rfl) ?_) | refine goA ?_ | (guard_target =~ IsG; first | refine psA ?_ | (guard_target =~ CallS_; first | refine RunU.doit rfl rfl (step_call (hI) (.sh (.sh (.sh .nil))) (.sh shows_any (.sh shows_any (.sh shows_any .nil))) rfl) ?_ | refine RunU.doit rfl rfl (step_call (hP) (.sh (.sh (.sh .nil))) (.shAgg rfl aggs_any (.shAgg rfl aggs_any (.sh shows_any .nil))) rfl) ?_) | refine gdA ?_) | (refine neA ?_; first | refine nxA ?_ | refine Done.ret (.one res_any .nil) (.sh .nil) ?_ rfl) | fail)
                    all_goals first | rfl | (exfalso; omega)
                · have hnext := hnext ⟨fun h => absurd h e, fun _ => by simpa only [Nat.mul_one] using And.intro hx hs, fun h => absurd h hik⟩
                  clear hno hbi hbk
                  repeat' (first | refine Two.mk (fun _ => ?_) (fun _ => ?_) | (guard_target =~ CallN_; first | refine RunU.cons (step_call (hI) (.sh (.sh (.sh .nil))) (.sh shows_any (.sh shows_any (.sh shows_any .nil))) rfl) ?_) | refine goA ?_ | (guard_target =~ IsG; first | refine psA ?_ | (guard_target =~ CallS_; first | refine RunU.doit rfl rfl (step_call (hI) (.sh (.sh (.sh .nil))) (.sh shows_any (.sh shows_any (.sh shows_any .nil))) rfl) ?_) | refine gdA ?_) | (refine neA ?_; first | refine nxA ?_ | refine Done.ret (.one res_any .nil) (.sh .nil) ?_ rfl) | fail)
                  all_goals try (exfalso; omega)
                  all_goals exact ⟨k + 1, ⟨by omega, hnext⟩, ⟨rfl, rfl, rfl, int_eq (by omega), trivial⟩, by omega⟩
              · rw [hno (fun h => hs (by simpa only [Nat.mul_one] using (h.2.1 e).2))]
                clear hno hbi hbk hnext
                repeat' (first | refine Two.mk (fun _ => ?_) (fun _ => ?_) | (guard_target =~ CallN_; first | refine RunU.cons (step_call (hI) (.sh (.sh (.sh .nil))) (.sh shows_any (.sh shows_any (.sh shows_any .nil))) rfl) ?_) | refine goA ?_ | (guard_target =~ IsG; first | refine psA ?_ | (guard_target =~ CallS_; first | refine RunU.doit rfl rfl (step_call (hI) (.sh (.sh (.sh .nil))) (.sh shows_any (.sh shows_any (.sh shows_any .nil))) rfl) ?_) | refine gdA ?_) | (refine neA ?_; first | refine nxA ?_ | refine Done.ret (.one res_any .nil) (.sh .nil) ?_ rfl) | fail)
                all_goals first | rfl | (exfalso; omega)
            · rw [decide_eq_false hx] at hI
              rw [hno (fun h => hx (by simpa only [Nat.mul_one] using (h.2.1 e).1))]
              clear hno hbi hbk hnext
              repeat' (first | refine Two.mk (fun _ => ?_) (fun _ => ?_) | (guard_target =~ CallN_; first | refine RunU.cons (step_call (hI) (.sh (.sh (.sh .nil))) (.sh shows_any (.sh shows_any (.sh shows_any .nil))) rfl) ?_) | refine goA ?_ | (guard_target =~ IsG; first | refine psA ?_ | (guard_target =~ CallS_; first | refine RunU.doit rfl rfl (step_call (hI) (.sh (.sh (.sh .nil))) (.sh shows_any (.sh shows_any (.sh shows_any .nil))) rfl) ?_) | refine gdA ?_) | (refine neA ?_; first | refine nxA ?_ | refine Done.ret (.one res_any .nil) (.sh .nil) ?_ rfl) | fail)
              all_goals first | rfl | (exfalso; omega)
        · have hcs2 : ∀ p, p < i + 1 → ∀ q, q < B.length → CellS B C p q := fun p hp q hq => by
            by_cases e : p = i
            · subst e; exact hcell q (by omega)
            · exact hcs p (by omega) q hq
          clear hcell hcs hall hrow
          repeat' (first | refine Two.mk (fun _ => ?_) (fun _ => ?_) | refine goA ?_ | (guard_target =~ IsG; first | refine psA ?_ | refine gdA ?_) | (refine neA ?_; first | refine nxA ?_ | refine Done.ret (.one res_any .nil) (.sh .nil) ?_ rfl) | fail)
          all_goals try (exfalso; omega)
          all_goals exact ⟨i + 1, ⟨by omega, hcs2⟩, ⟨rfl, rfl, int_eq (by omega), trivial⟩, by omega⟩
      · have hcs2 : ∀ p, p < B.length → ∀ q, q < B.length → CellS B C p q := fun p hp => hcs p (by omega)
        clear hcs
        repeat' (first | refine Two.mk (fun _ => ?_) (fun _ => ?_) | refine goA ?_ | (guard_target =~ IsG; first | refine psA ?_ | refine gdA ?_) | (refine neA ?_; first | refine nxA ?_ | refine Done.ret (.one res_any .nil) (.sh .nil) ?_ rfl) | fail)
        all_goals try (exfalso; omega)
        refine WpA.loop_slots (ι := Nat) (fun i => [(1, vCv 1 B C), (3, vQJ B.length), (8, vQJ i)]) (fun i => i ≤ B.length ∧ ∀ p, p < i → ∀ q, q < B.length → ∀ r, r < B.length → Ult C p q r) (fun i => B.length - i) 0 ⟨by omega, fun p hp => by omega⟩ ⟨rfl, rfl, rfl, trivial⟩ ?_
        rintro i s nx ⟨hi, hu0⟩
        by_cases hlt2 : i < B.length
        · repeat' (first | refine Two.mk (fun _ => ?_) (fun _ => ?_) | refine goA ?_ | (guard_target =~ IsG; first | refine psA ?_ | refine gdA ?_) | (refine neA ?_; first | refine nxA ?_ | refine Done.ret (.one res_any .nil) (.sh .nil) ?_ rfl) | fail)
          all_goals try (exfalso; omega)
          refine WpA.loop_slots (ι := Nat) (fun k => [(1, vCv 1 B C), (3, vQJ B.length), (8, vQJ i), (9, vQJ k)]) (fun k => k ≤ B.length ∧ ∀ q, q < k → ∀ r, r < B.length → Ult C i q r) (fun k => B.length - k) 0 ⟨by omega, fun q hq => by omega⟩ ⟨rfl, rfl, rfl, rfl, trivial⟩ ?_
          rintro k s nx ⟨hk, hu1⟩
          by_cases hlt3 : k < B.length
          · repeat' (first | refine Two.mk (fun _ => ?_) (fun _ => ?_) | refine goA ?_ | (guard_target =~ IsG; first | refine psA ?_ | refine gdA ?_) | (refine neA ?_; first | refine nxA ?_ | refine Done.ret (.one res_any .nil) (.sh .nil) ?_ rfl) | fail)
            all_goals try (exfalso; omega)
            refine WpA.loop_slots (ι := Nat) (fun j => [(1, vCv 1 B C), (3, vQJ B.length), (8, vQJ i), (9, vQJ k), (10, vQJ j)]) (fun j => j ≤ B.length ∧ ∀ r, r < j → Ult C i k r) (fun j => B.length - j) 0 ⟨by omega, fun r hr => by omega⟩ ⟨rfl, rfl, rfl, rfl, rfl, trivial⟩ ?_
            rintro j s nx ⟨hj, hu2⟩
            by_cases hlt4 : j < B.length
            · have hl1 := hrow i hlt2
              have hl2 := hrow j hlt4
              by_cases hu : Ult C i k j
              · have hul2 : ∀ r, r < j + 1 → Ult C i k r := fun r hr => by
                  by_cases e2 : r = j
                  · subst e2; exact hu
                  · exact hu2 r (by omega)
                have hu3 : i ≠ k → j ≠ i → j ≠ k → min ((C.getD (i * 1) []).getD (j * 1) 0) ((C.getD (j * 1) []).getD (k * 1) 0) ≤ (C.getD (i * 1) []).getD (k * 1) 0 := by simp only [Nat.mul_one]; exact hu
                clear hu hu0 hu1 hu2 hcs2 hall hrow
                repeat' (first | refine Two.mk (fun _ => ?_) (fun _ => ?_) | refine goA ?_ | (guard_target =~ IsG; first | refine psA ?_ | refine gdA ?_) | (refine neA ?_; first | refine nxA ?_ | refine Done.ret (.one res_any .nil) (.sh .nil) ?_ rfl) | fail)
                all_goals try (exfalso; omega)
                all_goals exact ⟨j + 1, ⟨by omega, hul2⟩, ⟨rfl, rfl, rfl, rfl, int_eq (by omega), trivial⟩, by omega⟩
              · rw [cuS_ult hlt2 hlt3 hlt4 hu]
                have hu3 : ¬ (i ≠ k → j ≠ i → j ≠ k → min ((C.getD (i * 1) []).getD (j * 1) 0) ((C.getD (j * 1) []).getD (k * 1) 0) ≤ (C.getD (i * 1) []).getD (k * 1) 0) := by simp only [Nat.mul_one]; exact hu
                clear hu hu0 hu1 hu2 hcs2 hall hrow
                repeat' (first | refine Two.mk (fun _ => ?_) (fun _ => ?_) | refine goA ?_ | (guard_target =~ IsG; first | refine psA ?_ | refine gdA ?_) | (refine neA ?_; first | refine nxA ?_ | refine Done.ret (.one res_any .nil) (.sh .nil) ?_ rfl) | fail)
                all_goals first | rfl | (exfalso; omega)
            · have hu4 : ∀ q, q < k + 1 → ∀ r, r < B.length → Ult C i q r := fun q hq r hr => by
                by_cases e2 : q = k
                · subst e2; exact hu2 r (by omega)
                · exact hu1 q (by omega) r hr
              clear hu2 hu1 hu0 hcs2 hall hrow
              repeat' (first | refine Two.mk (fun _ => ?_) (fun _ => ?_) | refine goA ?_ | (guard_target =~ IsG; first | refine psA ?_ | refine gdA ?_) | (refine neA ?_; first | refine nxA ?_ | refine Done.ret (.one res_any .nil) (.sh .nil) ?_ rfl) | fail)
              all_goals try (exfalso; omega)
              all_goals exact ⟨k + 1, ⟨by omega, hu4⟩, ⟨rfl, rfl, rfl, int_eq (by omega), trivial⟩, by omega⟩
          · have hu4 : ∀ p, p < i + 1 → ∀ q, q < B.length → ∀ r, r < B.length → Ult C p q r := fun p hp q hq => by
              by_cases e2 : p = i
              · subst e2; exact hu1 q (by omega)
              · exact hu0 p (by omega) q hq
            clear hu1 hu0 hcs2 hall hrow
            repeat' (first | refine Two.mk (fun _ => ?_) (fun _ => ?_) | refine goA ?_ | (guard_target =~ IsG; first | refine psA ?_ | refine gdA ?_) | (refine neA ?_; first | refine nxA ?_ | refine Done.ret (.one res_any .nil) (.sh .nil) ?_ rfl) | fail)
            all_goals try (exfalso; omega)
            all_goals exact ⟨i + 1, ⟨by omega, hu4⟩, ⟨rfl, rfl, int_eq (by omega), trivial⟩, by omega⟩
        · rw [decide_eq_true ((isCu_iffS B C).2 ⟨hn, hall, hcs2, fun p hp => hu0 p (by omega)⟩)]
          clear hu0 hcs2 hall hrow
          repeat' (first | refine Two.mk (fun _ => ?_) (fun _ => ?_) | refine goA ?_ | (guard_target =~ IsG; first | refine psA ?_ | refine gdA ?_) | (refine neA ?_; first | refine nxA ?_ | refine Done.ret (.one res_any .nil) (.sh .nil) ?_ rfl) | fail)
          all_goals first | rfl | (exfalso; omega)
  · rw [decide_eq_false (fun q : IsCu B C => hn ⟨q.1, q.2.1.1⟩)]
    clear hb hr
    refine callA_of _ Tryz.func36 rfl Tryz.ntmps36 solid_any ?_
    repeat' (first | refine Two.mk (fun _ => ?_) (fun _ => ?_) | refine goA ?_ | (guard_target =~ IsG; first | refine psA ?_ | refine gdA ?_) | (refine neA ?_; first | refine nxA ?_ | refine Done.ret (.one res_any .nil) (.sh .nil) ?_ rfl) | fail)
    all_goals first | rfl | (exfalso; omega)
end Go.Proofs.YtinenidbgmddhaaGreat
