/- The reference's recursion that chooses branches. No condition. -/
import Derived.Test.YtinenidbgmddhaaGreatUCvK
set_option linter.unusedVariables false
set_option linter.unusedSimpArgs false
namespace Go.Proofs.YtinenidbgmddhaaGreat
set_option maxHeartbeats 20000000
open Go.Pv
open Go.ChangeShapes Go.WideShapes Go.ChangeAt Go.RowKit
attribute [local irreducible] RunU WpA Step CallG CallNG Done DoneN CallH
attribute [local irreducible] decStrict decFalls decIsBr decWithin Strict Falls IsBr Within IsCu
theorem own_mix2 {id : Nat} {A2 M2 : List (List Int)} {ds es : List D} (h : ds = LLs A2) (h2 : es = LL M2) : AV.own id (.pt true [.sl true 1 ds, .sl true 1 es]) = AV.own id (.pt true [.sl true 1 (LLs A2), .sl true 1 (LL M2)]) := by rw [h, h2]
theorem takeS (B : List (List Int)) {j : Nat} (h : j < B.length) : LLs (B.take j) ++ [D.sl false 1 (ints (B.getD (j * 1) []))] = LLs (B.take (j + 1)) := take_LLx B h
theorem takeM (C : List (List Int)) {j : Nat} (h : j < C.length) : (C.take j).map (· ++ [0]) ++ [C.getD (j * 1) [] ++ [0]] = (C.take (j + 1)).map (· ++ [0]) := by
  rw [← take_LL C h, List.map_append]; rfl
theorem LLs_app (A : List (List Int)) (b : List Int) : LLs A ++ [D.sl false 1 (ints b)] = LLs (A ++ [b]) := by simp
theorem LL_app (A : List (List Int)) (b : List Int) : LL A ++ [D.sl true 1 (ints b)] = LL (A ++ [b]) := by simp [LL]
theorem nx_erase (B M : List (List Int)) (b r : List Int) : D.erases [D.sl true 1 (LLs B ++ [D.sl false 1 (ints b)]), D.sl true 1 (LL M ++ [D.sl true 1 (ints r)])] = [.sl false 1 (LLs (B ++ [b])), .sl false 1 (LLs (M ++ [r]))] := by
  rw [LLs_app, LL_app]
  simp only [D.erases, D.erase, erases_LL, erases_LLs]
set_option maxRecDepth 100000 in
theorem cur_c (m : Int) (hm : 0 ≤ m ∧ m ≤ 10) (Bs : List (List Int)) (hBs : Bs.length ≤ 1000) : ∀ f fr, CurOk m Bs fr (curS m Bs f fr)
  | 0, fr, B, C, T, out, res, h, he => by simp [curS] at he
  | f + 1, fr, B, C, T, out, res, h, he => by
    have h6 := h.n6
    have hMu := l09Milnor_c B C h.mu
    rw [← muT_eq h] at hMu
    have hrec := fun i => com_c m hm Bs i (curS m Bs f i) (cur_c m hm Bs hBs f i)
    rw [curS] at he
    by_cases hlo : 1000 < out.length
    · rw [if_pos hlo] at he; cases he
    rw [if_neg hlo] at he
    have hol := cellsF_len out
    by_cases h0 : 0 < B.length
    · by_cases hge : m ≤ muT T C B.length
      · rw [if_pos (.inr ⟨h0, hge⟩)] at he
        simp only [Option.some.injEq] at he
        clear hrec h
        generalize muT T C B.length = mu at *
        by_cases hme : mu = m
        · rw [if_pos ⟨h0, hme⟩] at he
          rw [← he]
          clear he
          change CallH _ _ [_, _, _, _, .mv (.one (.sl true 2 (cellsF out)))] [.one (.sl true 2 (cellsF (out ++ [(B, C)])))]
          rw [← cellsF_app]
          generalize cellsF out = O at *
          refine callH_of _ Tryz.func61 rfl Tryz.ntmps61 rfl ?_
          repeat' (first | refine Two.mk (fun _ => ?_) (fun _ => ?_) | (guard_target =~ CallN_; first | refine RunU.cons (step_call (hMu) (.sh .nil) (.shAgg rfl aggs_any .nil) rfl) ?_) | (guard_target =~ IsN; first | refine RunU.cons (step_append_give (ds := [.sl false 1 (LLs B), .sl false 1 (LLs C)]) (.als rfl rfl) (.own rfl) (by simp; omega) rfl) ?_) | refine goA ?_ | (guard_target =~ IsG; first | refine psA ?_ | (guard_target =~ CallS_; first | refine RunU.doit rfl rfl (step_call (hMu) (.sh .nil) (.shAgg rfl aggs_any .nil) rfl) ?_) | refine RunU.doit rfl rfl (step_append_give (ds := [.sl false 1 (LLs B), .sl false 1 (LLs C)]) (.als rfl rfl) (.own rfl) (by simp; omega) rfl) ?_ | refine gdA ?_) | (refine neA ?_; first | refine nxA ?_ | refine Done.ret (.one res_any .nil) (.sh (.sh (.sh (.sh (.mv .nil))))) ?_ rfl) | fail)
          all_goals first | rfl | (exfalso; omega; done) | skip
        · rw [if_neg (fun q => hme q.2)] at he
          subst he
          generalize cellsF out = O at *
          refine callH_of _ Tryz.func61 rfl Tryz.ntmps61 rfl ?_
          repeat' (first | refine Two.mk (fun _ => ?_) (fun _ => ?_) | (guard_target =~ CallN_; first | refine RunU.cons (step_call (hMu) (.sh .nil) (.shAgg rfl aggs_any .nil) rfl) ?_) | refine goA ?_ | (guard_target =~ IsG; first | refine psA ?_ | (guard_target =~ CallS_; first | refine RunU.doit rfl rfl (step_call (hMu) (.sh .nil) (.shAgg rfl aggs_any .nil) rfl) ?_) | refine gdA ?_) | (refine neA ?_; first | refine nxA ?_ | refine Done.ret (.one res_any .nil) (.sh (.sh (.sh (.sh (.mv .nil))))) ?_ rfl) | fail)
          all_goals first | rfl | (exfalso; omega)
      · by_cases hr6 : B.length = 6
        · rw [if_pos (.inl hr6)] at he
          simp only [Option.some.injEq] at he
          rw [if_neg (fun q => hge (Int.le_of_eq q.2.symm))] at he
          subst he
          clear hrec h
          generalize muT T C B.length = mu at *
          generalize cellsF out = O at *
          refine callH_of _ Tryz.func61 rfl Tryz.ntmps61 rfl ?_
          repeat' (first | refine Two.mk (fun _ => ?_) (fun _ => ?_) | (guard_target =~ CallN_; first | refine RunU.cons (step_call (hMu) (.sh .nil) (.shAgg rfl aggs_any .nil) rfl) ?_) | refine goA ?_ | (guard_target =~ IsG; first | refine psA ?_ | (guard_target =~ CallS_; first | refine RunU.doit rfl rfl (step_call (hMu) (.sh .nil) (.shAgg rfl aggs_any .nil) rfl) ?_) | refine gdA ?_) | (refine neA ?_; first | refine nxA ?_ | refine Done.ret (.one res_any .nil) (.sh (.sh (.sh (.sh (.mv .nil))))) ?_ rfl) | fail)
          all_goals first | rfl | (exfalso; omega)
        · rw [if_neg (fun q => q.elim hr6 (fun q => hge q.2))] at he
          have hlk := fun t i => h.ext (t := t) (b := Bs.getD i [])
          have hcl := h.cl
          have hrl := fun k (hk : k < B.length) => h.rl k hk
          clear h
          generalize muT T C B.length = mu at *
          refine callH_of _ Tryz.func61 rfl Tryz.ntmps61 rfl ?_
          repeat' (first | refine Two.mk (fun _ => ?_) (fun _ => ?_) | (guard_target =~ CallN_; first | refine RunU.cons (step_call (hMu) (.sh .nil) (.shAgg rfl aggs_any .nil) rfl) ?_) | refine goA ?_ | (guard_target =~ IsG; first | refine psA ?_ | (guard_target =~ CallS_; first | refine RunU.doit rfl rfl (step_call (hMu) (.sh .nil) (.shAgg rfl aggs_any .nil) rfl) ?_) | refine gdA ?_) | (refine neA ?_; first | refine nxA ?_ | refine Done.ret (.one res_any .nil) (.sh (.sh (.sh (.sh (.mv .nil))))) ?_ rfl) | fail)
          all_goals try (exfalso; omega)
          refine WpA.loop_slots (ι := Nat × List CuP × Nat) (fun q => [(0, vLL Bs), (3, vQJ m), (4, .own q.2.2 (.sl true 2 (cellsF q.2.1))), (7, .own 5 (.pt true [.sl false 1 (LLs B), .sl false 1 (LLs C)])), (11, vQJ B.length), (12, vQJ q.1)]) (fun q => q.2.1.length ≤ q.2.1.length ∧ lpS (fun i out => match lk8 (Bs.getD i []) with
            | none => none
            | some t => comS (m + 6) (curS m Bs f i) B.length (B ++ [Bs.getD i []]) (extC C) (T ++ [t]) 0 out) (Bs.length - q.1) q.1 q.2.1 = some res) (fun q => Bs.length - q.1) (fr, out, _) ⟨by simp, he⟩ ⟨rfl, rfl, by exact rfl, rfl, rfl, rfl, trivial⟩ ?_
          rintro ⟨i, ou, i4⟩ s nx ⟨_, hq⟩
          clear he
          dsimp only at hq ⊢
          by_cases hi : i < Bs.length
          · rw [show Bs.length - i = (Bs.length - (i + 1)) + 1 by omega, lpS] at hq
            cases hl : lk8 (Bs.getD i []) with
            | none => rw [hl] at hq; simp at hq
            | some t =>
              rw [hl] at hq
              cases hco : comS (m + 6) (curS m Bs f i) B.length (B ++ [Bs.getD i []]) (extC C) (T ++ [t]) 0 ou with
              | none => simp only [hco, Option.bind_none] at hq; cases hq
              | some o2 =>
                simp only [hco, Option.bind_some] at hq
                have hR := hrec i B.length (B ++ [Bs.getD i []]) (extC C) (T ++ [t]) 0 ou o2 (hlk t i (lk_ok hl) (by omega)) (by simp) hco
                rw [show ((0 : Nat) : Int) = 0 from rfl, show Bs.getD i [] = Bs.getD (i * 1) [] by rw [Nat.mul_one]] at hR
                change CallH _ _ [_, _, _, _, _, .mv (.one (.sl true 2 (cellsF ou)))] _ at hR
                clear hrec hlk hco hl
                generalize hOu : cellsF ou = O at *
                repeat' (first | refine Two.mk (fun _ => ?_) (fun _ => ?_) | refine goA ?_ | (guard_target =~ IsG; first | refine psA ?_ | refine gdA ?_) | (refine neA ?_; first | refine nxA ?_ | refine Done.ret (.one res_any .nil) (.sh (.sh (.sh (.sh (.mv .nil))))) ?_ rfl) | fail)
                all_goals try (exfalso; omega)
                refine WpA.loop_slots2 (fun k i13 => [(0, vLL Bs), (3, vQJ m), (4, .own i4 (.sl true 2 O)), (7, .own 5 (.pt true [.sl false 1 (LLs B), .sl false 1 (LLs C)])), (11, vQJ B.length), (12, vQJ i), (13, .own i13 (.pt true [.sl true 1 (LLs (B.take k)), .sl true 1 (LL ((C.take k).map (· ++ [0])))])), (14, vQJ k)]) (fun k => k ≤ B.length) (fun k => B.length - k) 0 _ (by omega) ⟨rfl, rfl, by exact rfl, rfl, rfl, rfl, by exact rfl, rfl, trivial⟩ ?_
                intro k i13 s nx hk
                have lA : (B.take k).length = k := by rw [List.length_take]; omega
                have lM : ((C.take k).map (· ++ [(0 : Int)])).length = k := by rw [List.length_map, List.length_take]; omega
                by_cases hkl : k < B.length
                · have e1 := takeS B hkl
                  have e2 := takeM C (j := k) (by omega)
                  have hrk : (C.getD (k * 1) []).length = B.length := by rw [Nat.mul_one]; exact hrl k hkl
                  have hO := l01Own_c (C.getD (k * 1) []) (by omega)
                  clear hR hrl hq
                  generalize hA2 : B.take (k + 1) = A2 at *
                  generalize hM2 : (C.take (k + 1)).map (· ++ [(0 : Int)]) = M2 at *
                  generalize B.take k = A at *
                  generalize (C.take k).map (· ++ [(0 : Int)]) = M at *
                  have q1 : LLs A ++ [D.sl false 1 (ints (B.getD (k * 1) []))] = LLs (List.take (k + 1) B) := e1.trans (by rw [hA2])
                  have q2 : LL M ++ [D.sl true 1 (ints (C.getD (k * 1) [] ++ [0]))] = LL ((List.take (k + 1) C).map (· ++ [0])) := (LL_app M _).trans (by rw [e2, hM2])
                  repeat' (first | refine Two.mk (fun _ => ?_) (fun _ => ?_) | (guard_target =~ CallN_; first | refine RunU.cons (step_call (hO) (.sh .nil) (.sh shows_any .nil) rfl) ?_) | (guard_target =~ IsN; first | refine RunU.cons (step_append_give (.part rfl rfl rfl) (.own rfl) (by simp; omega) rfl) ?_) | refine goA ?_ | (guard_target =~ IsG; first | refine psA ?_ | (guard_target =~ CallS_; first | refine RunU.doit rfl rfl (step_call (hO) (.sh .nil) (.sh shows_any .nil) rfl) ?_) | refine RunU.doit rfl rfl (step_append_give (.part rfl rfl rfl) (.own rfl) (by simp; omega) rfl) ?_ | refine gdA ?_) | (refine neA ?_; first | refine nxA ?_ | refine Done.ret (.one res_any .nil) (.sh (.sh (.sh (.sh (.mv .nil))))) ?_ rfl) | fail)
                  all_goals try (exfalso; omega)
                  all_goals exact ⟨k + 1, by omega, ⟨_, rfl, rfl, rfl, rfl, rfl, rfl, by exact own_mix2 q1 q2, int_eq (by omega), trivial⟩, by omega⟩
                · obtain rfl : k = B.length := by omega
                  have eC : C.take B.length = C := by rw [← hcl]; exact List.take_length
                  clear lA lM
                  have lM : (C.map (· ++ [(0 : Int)])).length = B.length := by rw [List.length_map, hcl]
                  rw [List.take_length, eC]
                  have eX : extC C = C.map (· ++ [0]) ++ [List.replicate ((B.length : Int) + 1).toNat 0] := by
                    unfold extC
                    rw [hcl]
                    rfl
                  rw [eX] at hR
                  generalize C.map (· ++ [(0 : Int)]) = M at *
                  repeat' (first | refine Two.mk (fun _ => ?_) (fun _ => ?_) | (guard_target =~ IsW; first | refine WpA.freezeInC 96 13 [.sl false 1 (LLs (B ++ [Bs.getD (i * 1) []])), .sl false 1 (LLs (M ++ [List.replicate ((B.length : Int) + 1).toNat 0]))] rfl rfl rfl (by exact nx_erase B M _ _) ?_) | (guard_target =~ AtN 101; first | refine RunU.consX (step_callH (hR) (.sh (.sh (.sh (.sh (.sh (.mv give_any .nil)))))) (.sh (by first | exact .lit rfl rfl | exact .c rfl) (.sh (by first | exact .lit rfl rfl | exact .c rfl) (.sh (.agg rfl (by first | exact .nil | exact .cons .nil | exact .cons (.cons .nil) | exact .cons (.cons (.cons .nil)) | exact .cons (.cons (.cons (.cons .nil))) | exact .cons (.cons (.cons (.cons (.cons .nil)))))) (.sh (by first | exact .lit rfl rfl | exact .c rfl) (.sh (by first | exact .lit rfl rfl | exact .c rfl) (.mv .nil)))))) rfl rfl) ?_) | (guard_target =~ IsN; first | refine RunU.cons (step_append_give (.part rfl rfl rfl) (.own rfl) (by simp; omega) rfl) ?_) | refine goA ?_ | (guard_target =~ IsG; first | refine psA ?_ | (guard_target =~ AtS 101; first | refine RunU.doit rfl rfl (step_callH (hR) (.sh (.sh (.sh (.sh (.sh (.mv give_any .nil)))))) (.sh (by first | exact .lit rfl rfl | exact .c rfl) (.sh (by first | exact .lit rfl rfl | exact .c rfl) (.sh (.agg rfl (by first | exact .nil | exact .cons .nil | exact .cons (.cons .nil) | exact .cons (.cons (.cons .nil)) | exact .cons (.cons (.cons (.cons .nil))) | exact .cons (.cons (.cons (.cons (.cons .nil)))))) (.sh (by first | exact .lit rfl rfl | exact .c rfl) (.sh (by first | exact .lit rfl rfl | exact .c rfl) (.mv .nil)))))) rfl rfl) ?_) | refine RunU.doit rfl rfl (step_append_give (.part rfl rfl rfl) (.own rfl) (by simp; omega) rfl) ?_ | refine gdA ?_) | (refine neA ?_; first | refine nxA ?_ | refine Done.ret (.one res_any .nil) (.sh (.sh (.sh (.sh (.mv .nil))))) ?_ rfl) | fail)
                  all_goals try (exfalso; omega)
                  all_goals exact ⟨(i + 1, o2, _), ⟨by simp, hq⟩, ⟨rfl, rfl, by exact rfl, rfl, rfl, int_eq (by simp), trivial⟩, by simp only; omega⟩
          · rw [show Bs.length - i = 0 by omega, lpS] at hq
            simp only [Option.some.injEq] at hq
            subst hq
            clear hrec hlk hrl
            repeat' (first | refine Two.mk (fun _ => ?_) (fun _ => ?_) | refine goA ?_ | (guard_target =~ IsG; first | refine psA ?_ | refine gdA ?_) | (refine neA ?_; first | refine nxA ?_ | refine Done.ret (.one res_any .nil) (.sh (.sh (.sh (.sh (.mv .nil))))) ?_ rfl) | fail)
            all_goals first | rfl | (exfalso; omega)
    · rw [if_neg (fun q => q.elim (by omega) (fun q => h0 q.1))] at he
      have hlk := fun t i => h.ext (t := t) (b := Bs.getD i [])
      have hcl := h.cl
      have hrl := fun k (hk : k < B.length) => h.rl k hk
      clear h
      generalize muT T C B.length = mu at *
      refine callH_of _ Tryz.func61 rfl Tryz.ntmps61 rfl ?_
      repeat' (first | refine Two.mk (fun _ => ?_) (fun _ => ?_) | refine goA ?_ | (guard_target =~ IsG; first | refine psA ?_ | refine gdA ?_) | (refine neA ?_; first | refine nxA ?_ | refine Done.ret (.one res_any .nil) (.sh (.sh (.sh (.sh (.mv .nil))))) ?_ rfl) | fail)
      all_goals try (exfalso; omega)
      refine WpA.loop_slots (ι := Nat × List CuP × Nat) (fun q => [(0, vLL Bs), (3, vQJ m), (4, .own q.2.2 (.sl true 2 (cellsF q.2.1))), (7, .own 5 (.pt true [.sl false 1 (LLs B), .sl false 1 (LLs C)])), (11, vQJ B.length), (12, vQJ q.1)]) (fun q => q.2.1.length ≤ q.2.1.length ∧ lpS (fun i out => match lk8 (Bs.getD i []) with
        | none => none
        | some t => comS (m + 6) (curS m Bs f i) B.length (B ++ [Bs.getD i []]) (extC C) (T ++ [t]) 0 out) (Bs.length - q.1) q.1 q.2.1 = some res) (fun q => Bs.length - q.1) (fr, out, _) ⟨by simp, he⟩ ⟨rfl, rfl, by exact rfl, rfl, rfl, rfl, trivial⟩ ?_
      rintro ⟨i, ou, i4⟩ s nx ⟨_, hq⟩
      clear he
      dsimp only at hq ⊢
      by_cases hi : i < Bs.length
      · rw [show Bs.length - i = (Bs.length - (i + 1)) + 1 by omega, lpS] at hq
        cases hl : lk8 (Bs.getD i []) with
        | none => rw [hl] at hq; simp at hq
        | some t =>
          rw [hl] at hq
          cases hco : comS (m + 6) (curS m Bs f i) B.length (B ++ [Bs.getD i []]) (extC C) (T ++ [t]) 0 ou with
          | none => simp only [hco, Option.bind_none] at hq; cases hq
          | some o2 =>
            simp only [hco, Option.bind_some] at hq
            have hR := hrec i B.length (B ++ [Bs.getD i []]) (extC C) (T ++ [t]) 0 ou o2 (hlk t i (lk_ok hl) (by omega)) (by simp) hco
            rw [show ((0 : Nat) : Int) = 0 from rfl, show Bs.getD i [] = Bs.getD (i * 1) [] by rw [Nat.mul_one]] at hR
            change CallH _ _ [_, _, _, _, _, .mv (.one (.sl true 2 (cellsF ou)))] _ at hR
            clear hrec hlk hco hl
            generalize hOu : cellsF ou = O at *
            repeat' (first | refine Two.mk (fun _ => ?_) (fun _ => ?_) | refine goA ?_ | (guard_target =~ IsG; first | refine psA ?_ | refine gdA ?_) | (refine neA ?_; first | refine nxA ?_ | refine Done.ret (.one res_any .nil) (.sh (.sh (.sh (.sh (.mv .nil))))) ?_ rfl) | fail)
            all_goals try (exfalso; omega)
            refine WpA.loop_slots2 (fun k i13 => [(0, vLL Bs), (3, vQJ m), (4, .own i4 (.sl true 2 O)), (7, .own 5 (.pt true [.sl false 1 (LLs B), .sl false 1 (LLs C)])), (11, vQJ B.length), (12, vQJ i), (13, .own i13 (.pt true [.sl true 1 (LLs (B.take k)), .sl true 1 (LL ((C.take k).map (· ++ [0])))])), (14, vQJ k)]) (fun k => k ≤ B.length) (fun k => B.length - k) 0 _ (by omega) ⟨rfl, rfl, by exact rfl, rfl, rfl, rfl, by exact rfl, rfl, trivial⟩ ?_
            intro k i13 s nx hk
            have lA : (B.take k).length = k := by rw [List.length_take]; omega
            have lM : ((C.take k).map (· ++ [(0 : Int)])).length = k := by rw [List.length_map, List.length_take]; omega
            by_cases hkl : k < B.length
            · have e1 := takeS B hkl
              have e2 := takeM C (j := k) (by omega)
              have hrk : (C.getD (k * 1) []).length = B.length := by rw [Nat.mul_one]; exact hrl k hkl
              have hO := l01Own_c (C.getD (k * 1) []) (by omega)
              clear hR hrl hq
              generalize hA2 : B.take (k + 1) = A2 at *
              generalize hM2 : (C.take (k + 1)).map (· ++ [(0 : Int)]) = M2 at *
              generalize B.take k = A at *
              generalize (C.take k).map (· ++ [(0 : Int)]) = M at *
              have q1 : LLs A ++ [D.sl false 1 (ints (B.getD (k * 1) []))] = LLs (List.take (k + 1) B) := e1.trans (by rw [hA2])
              have q2 : LL M ++ [D.sl true 1 (ints (C.getD (k * 1) [] ++ [0]))] = LL ((List.take (k + 1) C).map (· ++ [0])) := (LL_app M _).trans (by rw [e2, hM2])
              repeat' (first | refine Two.mk (fun _ => ?_) (fun _ => ?_) | (guard_target =~ CallN_; first | refine RunU.cons (step_call (hO) (.sh .nil) (.sh shows_any .nil) rfl) ?_) | (guard_target =~ IsN; first | refine RunU.cons (step_append_give (.part rfl rfl rfl) (.own rfl) (by simp; omega) rfl) ?_) | refine goA ?_ | (guard_target =~ IsG; first | refine psA ?_ | (guard_target =~ CallS_; first | refine RunU.doit rfl rfl (step_call (hO) (.sh .nil) (.sh shows_any .nil) rfl) ?_) | refine RunU.doit rfl rfl (step_append_give (.part rfl rfl rfl) (.own rfl) (by simp; omega) rfl) ?_ | refine gdA ?_) | (refine neA ?_; first | refine nxA ?_ | refine Done.ret (.one res_any .nil) (.sh (.sh (.sh (.sh (.mv .nil))))) ?_ rfl) | fail)
              all_goals try (exfalso; omega)
              all_goals exact ⟨k + 1, by omega, ⟨_, rfl, rfl, rfl, rfl, rfl, rfl, by exact own_mix2 q1 q2, int_eq (by omega), trivial⟩, by omega⟩
            · obtain rfl : k = B.length := by omega
              have eC : C.take B.length = C := by rw [← hcl]; exact List.take_length
              clear lA lM
              have lM : (C.map (· ++ [(0 : Int)])).length = B.length := by rw [List.length_map, hcl]
              rw [List.take_length, eC]
              have eX : extC C = C.map (· ++ [0]) ++ [List.replicate ((B.length : Int) + 1).toNat 0] := by
                unfold extC
                rw [hcl]
                rfl
              rw [eX] at hR
              generalize C.map (· ++ [(0 : Int)]) = M at *
              repeat' (first | refine Two.mk (fun _ => ?_) (fun _ => ?_) | (guard_target =~ IsW; first | refine WpA.freezeInC 96 13 [.sl false 1 (LLs (B ++ [Bs.getD (i * 1) []])), .sl false 1 (LLs (M ++ [List.replicate ((B.length : Int) + 1).toNat 0]))] rfl rfl rfl (by exact nx_erase B M _ _) ?_) | (guard_target =~ AtN 101; first | refine RunU.consX (step_callH (hR) (.sh (.sh (.sh (.sh (.sh (.mv give_any .nil)))))) (.sh (by first | exact .lit rfl rfl | exact .c rfl) (.sh (by first | exact .lit rfl rfl | exact .c rfl) (.sh (.agg rfl (by first | exact .nil | exact .cons .nil | exact .cons (.cons .nil) | exact .cons (.cons (.cons .nil)) | exact .cons (.cons (.cons (.cons .nil))) | exact .cons (.cons (.cons (.cons (.cons .nil)))))) (.sh (by first | exact .lit rfl rfl | exact .c rfl) (.sh (by first | exact .lit rfl rfl | exact .c rfl) (.mv .nil)))))) rfl rfl) ?_) | (guard_target =~ IsN; first | refine RunU.cons (step_append_give (.part rfl rfl rfl) (.own rfl) (by simp; omega) rfl) ?_) | refine goA ?_ | (guard_target =~ IsG; first | refine psA ?_ | (guard_target =~ AtS 101; first | refine RunU.doit rfl rfl (step_callH (hR) (.sh (.sh (.sh (.sh (.sh (.mv give_any .nil)))))) (.sh (by first | exact .lit rfl rfl | exact .c rfl) (.sh (by first | exact .lit rfl rfl | exact .c rfl) (.sh (.agg rfl (by first | exact .nil | exact .cons .nil | exact .cons (.cons .nil) | exact .cons (.cons (.cons .nil)) | exact .cons (.cons (.cons (.cons .nil))) | exact .cons (.cons (.cons (.cons (.cons .nil)))))) (.sh (by first | exact .lit rfl rfl | exact .c rfl) (.sh (by first | exact .lit rfl rfl | exact .c rfl) (.mv .nil)))))) rfl rfl) ?_) | refine RunU.doit rfl rfl (step_append_give (.part rfl rfl rfl) (.own rfl) (by simp; omega) rfl) ?_ | refine gdA ?_) | (refine neA ?_; first | refine nxA ?_ | refine Done.ret (.one res_any .nil) (.sh (.sh (.sh (.sh (.mv .nil))))) ?_ rfl) | fail)
              all_goals try (exfalso; omega)
              all_goals exact ⟨(i + 1, o2, _), ⟨by simp, hq⟩, ⟨rfl, rfl, by exact rfl, rfl, rfl, int_eq (by simp), trivial⟩, by simp only; omega⟩
      · rw [show Bs.length - i = 0 by omega, lpS] at hq
        simp only [Option.some.injEq] at hq
        subst hq
        clear hrec hlk hrl
        repeat' (first | refine Two.mk (fun _ => ?_) (fun _ => ?_) | refine goA ?_ | (guard_target =~ IsG; first | refine psA ?_ | refine gdA ?_) | (refine neA ?_; first | refine nxA ?_ | refine Done.ret (.one res_any .nil) (.sh (.sh (.sh (.sh (.mv .nil))))) ?_ rfl) | fail)
        all_goals first | rfl | (exfalso; omega)
end Go.Proofs.YtinenidbgmddhaaGreat
