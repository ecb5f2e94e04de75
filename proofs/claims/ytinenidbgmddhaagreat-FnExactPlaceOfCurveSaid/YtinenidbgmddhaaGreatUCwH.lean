/- The program's recursion that chooses branches. No condition. -/
import Derived.Test.YtinenidbgmddhaaGreatUCwN
import Derived.Test.YtinenidbgmddhaaGreatUCwO
import Derived.Test.YtinenidbgmddhaaGreatUCwP
import Derived.Test.YtinenidbgmddhaaGreatUCwQ
set_option linter.unusedVariables false
set_option linter.unusedSimpArgs false
namespace Go.Proofs.YtinenidbgmddhaaGreat
set_option maxHeartbeats 20000000
open Go.Pv
open Go.ChangeShapes Go.WideShapes Go.ChangeAt Go.RowKit
attribute [local irreducible] RunU WpA Step CallG CallNG Done DoneN
theorem share_c (m : Int) (hm : 0 ≤ m ∧ m ≤ 10) (Bs B : List (List Int)) (T : List TB) (h1 : 1 ≤ B.length) : ∀ f C i k out res, OkE B C T → k ≤ B.length → i < B.length → shI m B T f C i k out = some res →
    CallC2 Tryz.prog 115 (gD m Bs out) 1 (LLs B) 1 (LL C) [.int .i64 (i : Nat), .int .i64 (k : Nat)] (gD m Bs res) (LL C)
  | 0, C, i, k, out, res, h, hk, hi0, he => by simp [shI] at he
  | f + 1, C, i, k, out, res, h, hk, hi0, he => by
    by_cases hkn : k = B.length
    · by_cases hleaf : B.length ≤ i + 1 + 1
      · exact share_leafA m hm Bs B T h1 f C i k out res h hk hi0 hkn hleaf he
      · exact share_loopA m hm Bs B T h1 f (share_c m hm Bs B T h1 f) C i k out res h hk hi0 hkn hleaf he
    · by_cases hleaf : B.length ≤ i + 1
      · exact share_leafB m hm Bs B T h1 f C i k out res h hk hi0 hkn hleaf he
      · exact share_loopB m hm Bs B T h1 f (share_c m hm Bs B T h1 f) C i k out res h hk hi0 hkn hleaf he
end Go.Proofs.YtinenidbgmddhaaGreat
namespace Go.Proofs.YtinenidbgmddhaaGreat
set_option maxHeartbeats 20000000
open Go.Pv
open Go.ChangeShapes Go.WideShapes Go.ChangeAt Go.RowKit
attribute [local irreducible] RunU WpA Step CallG CallNG Done DoneN
attribute [local irreducible] DoneNH decStrict decFalls decIsBr decWithin Strict Falls IsBr Within IsCu
theorem sqZ_ent (n a b : Nat) : ((sqZ n).getD a []).getD b 0 = 0 := by
  simp only [sqZ, List.getD_eq_getElem?_getD, List.getElem?_replicate]
  split
  · simp only [Option.getD_some, List.getElem?_replicate]
    split <;> rfl
  · simp
theorem OkE.sqz {B C : List (List Int)} {T : List TB} (h : OkE B C T) : OkE B (sqZ B.length) T where
  n6 := h.n6
  tl := h.tl
  cl := by simp [sqZ]
  br := h.br
  rl := fun i hi => sqZ_row _ _ hi
  en := fun i hi k hk => by rw [sqZ_ent]; omega
theorem WpA.freezeD {P : Program} {n : NN} {nx : Nat} {st : Nat → AV} {Q : Exit → (Nat → AV) → Nat → Prop} {c : Code} (x : Nat) {id : Nat} {d : D} (d' : D) (hS : n.S = []) (hx : st x = .own id d) (he : d.erase = d') (h : WpA P n c (put st x (.c d')) nx Q) : WpA P n c st nx Q := by
  subst he
  exact WpA.freeze x hS hx h
set_option maxRecDepth 100000 in
theorem choose_c (m : Int) (hm : 0 ≤ m ∧ m ≤ 10) (Bs : List (List Int)) (hBs : Bs.length ≤ 1000) : ∀ f B T fr out res, OkE B (sqZ B.length) T → chI m Bs f B T fr out = some res →
    CallNH Tryz.prog 70 (gD m Bs out) [.mv (.one (.sl true 1 (LLs B))), aI (fr : Nat)] (gD m Bs res)
  | 0, B, T, fr, out, res, h, he => by simp [chI] at he
  | f + 1, B, T, fr, out, res, h, he => by
    have h6 := h.n6
    have hrec := fun i => choose_c m hm Bs hBs f (B ++ [Bs.getD i []])
    have hext := fun (t : TB) (i : Nat) (hb : TbOk (Bs.getD i []) t) (hl : B.length < 6) => (h.ext hb hl).sqz
    rw [chI] at he
    by_cases h0 : 0 < B.length
    · rw [if_pos h0] at he
      cases hs : shI m B T 20 (sqZ B.length) 0 1 out with
      | none => rw [hs] at he; simp at he
      | some o1 =>
        rw [hs, Option.bind_some] at he
        have hSh := share_c m hm Bs B T (by omega) 20 (sqZ B.length) 0 1 out o1 h (by omega) (by omega) hs
        rw [show ((0 : Nat) : Int) = 0 from rfl, show ((1 : Nat) : Int) = 1 from rfl] at hSh
        have hSq := squareZ_c B.length (by omega)
        clear h hs
        have hnnb : 0 ≤ (B.length : Int) * B.length ∧ (B.length : Int) * B.length ≤ 36 := ⟨Int.mul_nonneg (by omega) (by omega), Int.le_trans (Int.mul_le_mul (show (B.length : Int) ≤ 6 by omega) (show (B.length : Int) ≤ 6 by omega) (by omega) (by omega)) (by omega)⟩
        by_cases hgt : m < (B.length : Int) * B.length
        · rw [if_pos hgt] at he
          simp only [Option.some.injEq] at he
          subst he
          clear hrec hext
          generalize hnn : (B.length : Int) * B.length = nn at *
          refine callNH_of _ Tryz.func70 rfl Tryz.ntmps70 ?_
          refine WpA.freezeD 1 (.sl false 1 (LLs B)) rfl rfl (by show D.sl false 1 (D.erases (LLs B)) = _; rw [erases_LLs]) ?_
          repeat' (first | (guard_target =~ WpA _ _ _ _ _ _; first | refine WpA.numC 20 0 rfl rfl ?_ | refine WpA.seq ?_ | refine WpA.drawU ?_ | refine WpA.regionU ?_ | refine WpA.block ?_ | refine WpA.ret ?_ | refine WpA.skip ?_ | refine WpA.exit ?_ | refine WpA.cond_true rfl ?_ | refine WpA.cond_false rfl ?_ | refine WpA.cond_ntrue rfl ?_ | refine WpA.cond_dec rfl (fun _ => ?_) (fun _ => ?_) | refine WpA.cond_not rfl (fun _ => ?_) (fun _ => ?_) | refine WpA.cond rfl (fun _ => ?_) (fun _ => ?_)) | (guard_target =~ RunU _ _ _ _ [] _ _ _ _; first | refine RunU.nilL ?_ | refine RunU.nilD (by kernel_rfl) ?_) | (guard_target =~ RunU _ _ _ _ (Oper.mk (some 15) (Op.call ⟨Callee.value _, _, _⟩) _ _ _ none :: _) _ _ _ _; first | refine RunU.cons (step_call (hSq) (.sh .nil) (.sh shows_any .nil) rfl) ?_) | (guard_target =~ RunU _ _ _ _ (Oper.mk _ (Op.call ⟨Callee.value _, _, _⟩) _ _ _ none :: _) _ _ _ _; first | refine RunU.cons (step_callC2 (q := 18) (hSh) io_any (by exact rfl) (by exact rfl) (by exact rfl) (by first | exact .nil | exact .cons rfl .nil | exact .cons rfl (.cons rfl .nil) | exact .cons rfl (.cons rfl (.cons rfl .nil))) rfl rfl) ?_) | (guard_target =~ RunU _ _ _ _ (Oper.mk _ _ _ _ _ none :: _) _ _ _ _; refine RunU.cons step_any ?_) | ((fail_if_success (guard_target =~ @Eq _ _ _)); (fail_if_success (guard_target =~ @Exists _ _)); first | refine Then.next ?_ | refine InBlock.next ?_ | refine DoneNH.ret .nil rfl rfl | refine DoneNH.ret .nil rfl ?_ | refine DoneNH.normal .nil rfl rfl | refine DoneNH.normal .nil rfl ?_))
          all_goals try (exfalso; omega; done)
          all_goals try (exfalso; rw [hnn] at *; omega; done)
          all_goals first | exact DoneNH.ret .nil rfl rfl | exact DoneNH.normal .nil rfl rfl
        · rw [if_neg hgt] at he
          have hn3 : B.length ≤ 3 := by
            rcases Nat.lt_or_ge B.length 4 with q | q
            · omega
            · exact absurd (Int.lt_of_lt_of_le (show m < 16 by omega) (Int.mul_le_mul (show (4 : Int) ≤ B.length by omega) (show (4 : Int) ≤ B.length by omega) (by omega) (by omega))) hgt
          have hnn0 : 0 ≤ (B.length : Int) * B.length := Int.mul_nonneg (by omega) (by omega)
          generalize hnn : (B.length : Int) * B.length = nn at *
          refine callNH_of _ Tryz.func70 rfl Tryz.ntmps70 ?_
          refine WpA.freezeD 1 (.sl false 1 (LLs B)) rfl rfl (by show D.sl false 1 (D.erases (LLs B)) = _; rw [erases_LLs]) ?_
          repeat' (first | (guard_target =~ WpA _ _ _ _ _ _; first | refine WpA.numC 20 0 rfl rfl ?_ | refine WpA.seq ?_ | refine WpA.drawU ?_ | refine WpA.regionU ?_ | refine WpA.block ?_ | refine WpA.ret ?_ | refine WpA.skip ?_ | refine WpA.exit ?_ | refine WpA.cond_true rfl ?_ | refine WpA.cond_false rfl ?_ | refine WpA.cond_ntrue rfl ?_ | refine WpA.cond_dec rfl (fun _ => ?_) (fun _ => ?_) | refine WpA.cond_not rfl (fun _ => ?_) (fun _ => ?_) | refine WpA.cond rfl (fun _ => ?_) (fun _ => ?_)) | (guard_target =~ RunU _ _ _ _ [] _ _ _ _; first | refine RunU.nilL ?_ | refine RunU.nilD (by kernel_rfl) ?_) | (guard_target =~ RunU _ _ _ _ (Oper.mk (some 15) (Op.call ⟨Callee.value _, _, _⟩) _ _ _ none :: _) _ _ _ _; first | refine RunU.cons (step_call (hSq) (.sh .nil) (.sh shows_any .nil) rfl) ?_) | (guard_target =~ RunU _ _ _ _ (Oper.mk _ (Op.call ⟨Callee.value _, _, _⟩) _ _ _ none :: _) _ _ _ _; first | refine RunU.cons (step_callC2 (q := 18) (hSh) io_any (by exact rfl) (by exact rfl) (by exact rfl) (by first | exact .nil | exact .cons rfl .nil | exact .cons rfl (.cons rfl .nil) | exact .cons rfl (.cons rfl (.cons rfl .nil))) rfl rfl) ?_) | (guard_target =~ RunU _ _ _ _ (Oper.mk _ _ _ _ _ none :: _) _ _ _ _; refine RunU.cons step_any ?_) | ((fail_if_success (guard_target =~ @Eq _ _ _)); (fail_if_success (guard_target =~ @Exists _ _)); first | refine Then.next ?_ | refine InBlock.next ?_ | refine DoneNH.ret .nil rfl rfl | refine DoneNH.ret .nil rfl ?_ | refine DoneNH.normal .nil rfl rfl | refine DoneNH.normal .nil rfl ?_))
          all_goals try (exfalso; omega)
          all_goals try (exfalso; rw [hnn] at *; omega)
          refine WpA.loop_slots (ι := Nat × List CuP × Nat) (fun q => [(0, .own q.2.2 (gD m Bs q.2.1)), (1, .c (.sl false 1 (LLs B))), (7, vQJ B.length), (8, vQJ q.1)]) (fun q => q.2.1.length ≤ q.2.1.length ∧ lpS (fun i out => match lk8 (Bs.getD i []) with
            | none => none
            | some t => chI m Bs f (B ++ [Bs.getD i []]) (T ++ [t]) i out) (Bs.length - q.1) q.1 q.2.1 = some res) (fun q => Bs.length - q.1) (fr, o1, _) ⟨by simp, he⟩ ⟨by exact rfl, rfl, rfl, rfl, trivial⟩ ?_
          rintro ⟨i, ou, i0⟩ s nx ⟨_, hq⟩
          clear he
          dsimp only at hq ⊢
          by_cases hi : i < Bs.length
          · rw [show Bs.length - i = (Bs.length - (i + 1)) + 1 by omega, lpS] at hq
            cases hl : lk8 (Bs.getD i []) with
            | none => rw [hl] at hq; simp at hq
            | some t =>
              rw [hl] at hq
              cases hco : chI m Bs f (B ++ [Bs.getD i []]) (T ++ [t]) i ou with
              | none => simp only [hco, Option.bind_none] at hq; cases hq
              | some o2 =>
                simp only [hco, Option.bind_some] at hq
                have hR := hrec i (T ++ [t]) i ou o2 (hext t i (lk_ok hl) (by omega)) hco
                have hCl := cloneB_c B (by omega)
                rw [show Bs.getD i [] = Bs.getD (i * 1) [] by rw [Nat.mul_one], show LLs (B ++ [Bs.getD (i * 1) []]) = LLs B ++ [D.sl false 1 (ints (Bs.getD (i * 1) []))] by simp] at hR
                clear hrec hext hco hl
                repeat' (first | (guard_target =~ WpA _ _ _ _ _ _; first | refine WpA.seq ?_ | refine WpA.drawU ?_ | refine WpA.regionU ?_ | refine WpA.block ?_ | refine WpA.ret ?_ | refine WpA.skip ?_ | refine WpA.exit ?_ | refine WpA.cond_true rfl ?_ | refine WpA.cond_false rfl ?_ | refine WpA.cond_ntrue rfl ?_ | refine WpA.cond_dec rfl (fun _ => ?_) (fun _ => ?_) | refine WpA.cond_not rfl (fun _ => ?_) (fun _ => ?_) | refine WpA.cond rfl (fun _ => ?_) (fun _ => ?_)) | (guard_target =~ RunU _ _ _ _ [] _ _ _ _; first | refine RunU.nilL ?_ | refine RunU.nilD (by kernel_rfl) ?_) | (guard_target =~ RunU _ _ _ _ (Oper.mk (some 42) (Op.call ⟨Callee.value _, _, _⟩) _ _ _ none :: _) _ _ _ _; first | refine RunU.cons (step_callS (hCl) (.sh .nil) (.sh (by first | exact .lit rfl rfl | exact .c rfl) .nil) rfl) ?_) | (guard_target =~ RunU _ _ _ _ (Oper.mk (some 53) (Op.call ⟨Callee.value _, _, _⟩) _ _ _ none :: _) _ _ _ _; first | refine RunU.consX (step_callNH (hR) io_any (.mv give_any (.sh .nil)) (.mv (.sh (by first | exact .lit rfl rfl | exact .c rfl) .nil)) (by exact rfl) rfl rfl rfl) ?_) | (guard_target =~ RunU _ _ _ _ (Oper.mk _ _ _ _ _ none :: _) _ _ _ _; first | refine RunU.cons (step_append_give (.own rfl) (.own rfl) (by simp; omega) rfl) ?_) | (guard_target =~ RunU _ _ _ _ (Oper.mk _ _ _ _ _ none :: _) _ _ _ _; refine RunU.cons step_any ?_) | ((fail_if_success (guard_target =~ @Eq _ _ _)); (fail_if_success (guard_target =~ @Exists _ _)); first | refine Then.next ?_ | refine InBlock.next ?_ | refine DoneNH.ret .nil rfl rfl | refine DoneNH.ret .nil rfl ?_ | refine DoneNH.normal .nil rfl rfl | refine DoneNH.normal .nil rfl ?_))
                all_goals try (exfalso; omega)
                all_goals exact ⟨(i + 1, o2, _), ⟨by simp, hq⟩, ⟨by exact rfl, rfl, rfl, int_eq (by simp), trivial⟩, by simp only; omega⟩
          · rw [show Bs.length - i = 0 by omega, lpS] at hq
            simp only [Option.some.injEq] at hq
            subst hq
            clear hrec hext
            repeat' (first | (guard_target =~ WpA _ _ _ _ _ _; first | refine WpA.seq ?_ | refine WpA.drawU ?_ | refine WpA.regionU ?_ | refine WpA.block ?_ | refine WpA.ret ?_ | refine WpA.skip ?_ | refine WpA.exit ?_ | refine WpA.cond_true rfl ?_ | refine WpA.cond_false rfl ?_ | refine WpA.cond_ntrue rfl ?_ | refine WpA.cond_dec rfl (fun _ => ?_) (fun _ => ?_) | refine WpA.cond_not rfl (fun _ => ?_) (fun _ => ?_) | refine WpA.cond rfl (fun _ => ?_) (fun _ => ?_)) | (guard_target =~ RunU _ _ _ _ [] _ _ _ _; first | refine RunU.nilL ?_ | refine RunU.nilD (by kernel_rfl) ?_) | (guard_target =~ RunU _ _ _ _ (Oper.mk _ _ _ _ _ none :: _) _ _ _ _; refine RunU.cons step_any ?_) | ((fail_if_success (guard_target =~ @Eq _ _ _)); (fail_if_success (guard_target =~ @Exists _ _)); first | refine Then.next ?_ | refine InBlock.next ?_ | refine DoneNH.ret .nil rfl rfl | refine DoneNH.ret .nil rfl ?_ | refine DoneNH.normal .nil rfl rfl | refine DoneNH.normal .nil rfl ?_))
            all_goals try (exfalso; omega; done)
            all_goals try (exfalso; rw [hnn] at *; omega; done)
            all_goals first | exact DoneNH.ret .nil rfl rfl | exact DoneNH.normal .nil rfl rfl
    · rw [if_neg h0, Option.bind_some] at he
      clear h
      have hnnb : 0 ≤ (B.length : Int) * B.length ∧ (B.length : Int) * B.length ≤ 36 := ⟨Int.mul_nonneg (by omega) (by omega), Int.le_trans (Int.mul_le_mul (show (B.length : Int) ≤ 6 by omega) (show (B.length : Int) ≤ 6 by omega) (by omega) (by omega)) (by omega)⟩
      by_cases hgt : m < (B.length : Int) * B.length
      · rw [if_pos hgt] at he
        simp only [Option.some.injEq] at he
        subst he
        clear hrec hext
        generalize hnn : (B.length : Int) * B.length = nn at *
        refine callNH_of _ Tryz.func70 rfl Tryz.ntmps70 ?_
        refine WpA.freezeD 1 (.sl false 1 (LLs B)) rfl rfl (by show D.sl false 1 (D.erases (LLs B)) = _; rw [erases_LLs]) ?_
        repeat' (first | (guard_target =~ WpA _ _ _ _ _ _; first | refine WpA.seq ?_ | refine WpA.drawU ?_ | refine WpA.regionU ?_ | refine WpA.block ?_ | refine WpA.ret ?_ | refine WpA.skip ?_ | refine WpA.exit ?_ | refine WpA.cond_true rfl ?_ | refine WpA.cond_false rfl ?_ | refine WpA.cond_ntrue rfl ?_ | refine WpA.cond_dec rfl (fun _ => ?_) (fun _ => ?_) | refine WpA.cond_not rfl (fun _ => ?_) (fun _ => ?_) | refine WpA.cond rfl (fun _ => ?_) (fun _ => ?_)) | (guard_target =~ RunU _ _ _ _ [] _ _ _ _; first | refine RunU.nilL ?_ | refine RunU.nilD (by kernel_rfl) ?_) | (guard_target =~ RunU _ _ _ _ (Oper.mk _ _ _ _ _ none :: _) _ _ _ _; refine RunU.cons step_any ?_) | ((fail_if_success (guard_target =~ @Eq _ _ _)); (fail_if_success (guard_target =~ @Exists _ _)); first | refine Then.next ?_ | refine InBlock.next ?_ | refine DoneNH.ret .nil rfl rfl | refine DoneNH.ret .nil rfl ?_ | refine DoneNH.normal .nil rfl rfl | refine DoneNH.normal .nil rfl ?_))
        all_goals try (exfalso; omega; done)
        all_goals try (exfalso; rw [hnn] at *; omega; done)
        all_goals first | exact DoneNH.ret .nil rfl rfl | exact DoneNH.normal .nil rfl rfl
      · rw [if_neg hgt] at he
        have hn3 : B.length ≤ 3 := by
          rcases Nat.lt_or_ge B.length 4 with q | q
          · omega
          · exact absurd (Int.lt_of_lt_of_le (show m < 16 by omega) (Int.mul_le_mul (show (4 : Int) ≤ B.length by omega) (show (4 : Int) ≤ B.length by omega) (by omega) (by omega))) hgt
        have hnn0 : 0 ≤ (B.length : Int) * B.length := Int.mul_nonneg (by omega) (by omega)
        generalize hnn : (B.length : Int) * B.length = nn at *
        refine callNH_of _ Tryz.func70 rfl Tryz.ntmps70 ?_
        refine WpA.freezeD 1 (.sl false 1 (LLs B)) rfl rfl (by show D.sl false 1 (D.erases (LLs B)) = _; rw [erases_LLs]) ?_
        repeat' (first | (guard_target =~ WpA _ _ _ _ _ _; first | refine WpA.seq ?_ | refine WpA.drawU ?_ | refine WpA.regionU ?_ | refine WpA.block ?_ | refine WpA.ret ?_ | refine WpA.skip ?_ | refine WpA.exit ?_ | refine WpA.cond_true rfl ?_ | refine WpA.cond_false rfl ?_ | refine WpA.cond_ntrue rfl ?_ | refine WpA.cond_dec rfl (fun _ => ?_) (fun _ => ?_) | refine WpA.cond_not rfl (fun _ => ?_) (fun _ => ?_) | refine WpA.cond rfl (fun _ => ?_) (fun _ => ?_)) | (guard_target =~ RunU _ _ _ _ [] _ _ _ _; first | refine RunU.nilL ?_ | refine RunU.nilD (by kernel_rfl) ?_) | (guard_target =~ RunU _ _ _ _ (Oper.mk _ _ _ _ _ none :: _) _ _ _ _; refine RunU.cons step_any ?_) | ((fail_if_success (guard_target =~ @Eq _ _ _)); (fail_if_success (guard_target =~ @Exists _ _)); first | refine Then.next ?_ | refine InBlock.next ?_ | refine DoneNH.ret .nil rfl rfl | refine DoneNH.ret .nil rfl ?_ | refine DoneNH.normal .nil rfl rfl | refine DoneNH.normal .nil rfl ?_))
        all_goals try (exfalso; omega)
        all_goals try (exfalso; rw [hnn] at *; omega)
        refine WpA.loop_slots (ι := Nat × List CuP × Nat) (fun q => [(0, .own q.2.2 (gD m Bs q.2.1)), (1, .c (.sl false 1 (LLs B))), (7, vQJ B.length), (8, vQJ q.1)]) (fun q => q.2.1.length ≤ q.2.1.length ∧ lpS (fun i out => match lk8 (Bs.getD i []) with
          | none => none
          | some t => chI m Bs f (B ++ [Bs.getD i []]) (T ++ [t]) i out) (Bs.length - q.1) q.1 q.2.1 = some res) (fun q => Bs.length - q.1) (fr, out, _) ⟨by simp, he⟩ ⟨by exact rfl, rfl, rfl, rfl, trivial⟩ ?_
        rintro ⟨i, ou, i0⟩ s nx ⟨_, hq⟩
        clear he
        dsimp only at hq ⊢
        by_cases hi : i < Bs.length
        · rw [show Bs.length - i = (Bs.length - (i + 1)) + 1 by omega, lpS] at hq
          cases hl : lk8 (Bs.getD i []) with
          | none => rw [hl] at hq; simp at hq
          | some t =>
            rw [hl] at hq
            cases hco : chI m Bs f (B ++ [Bs.getD i []]) (T ++ [t]) i ou with
            | none => simp only [hco, Option.bind_none] at hq; cases hq
            | some o2 =>
              simp only [hco, Option.bind_some] at hq
              have hR := hrec i (T ++ [t]) i ou o2 (hext t i (lk_ok hl) (by omega)) hco
              have hCl := cloneB_c B (by omega)
              rw [show Bs.getD i [] = Bs.getD (i * 1) [] by rw [Nat.mul_one], show LLs (B ++ [Bs.getD (i * 1) []]) = LLs B ++ [D.sl false 1 (ints (Bs.getD (i * 1) []))] by simp] at hR
              clear hrec hext hco hl
              repeat' (first | (guard_target =~ WpA _ _ _ _ _ _; first | refine WpA.seq ?_ | refine WpA.drawU ?_ | refine WpA.regionU ?_ | refine WpA.block ?_ | refine WpA.ret ?_ | refine WpA.skip ?_ | refine WpA.exit ?_ | refine WpA.cond_true rfl ?_ | refine WpA.cond_false rfl ?_ | refine WpA.cond_ntrue rfl ?_ | refine WpA.cond_dec rfl (fun _ => ?_) (fun _ => ?_) | refine WpA.cond_not rfl (fun _ => ?_) (fun _ => ?_) | refine WpA.cond rfl (fun _ => ?_) (fun _ => ?_)) | (guard_target =~ RunU _ _ _ _ [] _ _ _ _; first | refine RunU.nilL ?_ | refine RunU.nilD (by kernel_rfl) ?_) | (guard_target =~ RunU _ _ _ _ (Oper.mk (some 42) (Op.call ⟨Callee.value _, _, _⟩) _ _ _ none :: _) _ _ _ _; first | refine RunU.cons (step_callS (hCl) (.sh .nil) (.sh (by first | exact .lit rfl rfl | exact .c rfl) .nil) rfl) ?_) | (guard_target =~ RunU _ _ _ _ (Oper.mk (some 53) (Op.call ⟨Callee.value _, _, _⟩) _ _ _ none :: _) _ _ _ _; first | refine RunU.consX (step_callNH (hR) io_any (.mv give_any (.sh .nil)) (.mv (.sh (by first | exact .lit rfl rfl | exact .c rfl) .nil)) (by exact rfl) rfl rfl rfl) ?_) | (guard_target =~ RunU _ _ _ _ (Oper.mk _ _ _ _ _ none :: _) _ _ _ _; first | refine RunU.cons (step_append_give (.own rfl) (.own rfl) (by simp; omega) rfl) ?_) | (guard_target =~ RunU _ _ _ _ (Oper.mk _ _ _ _ _ none :: _) _ _ _ _; refine RunU.cons step_any ?_) | ((fail_if_success (guard_target =~ @Eq _ _ _)); (fail_if_success (guard_target =~ @Exists _ _)); first | refine Then.next ?_ | refine InBlock.next ?_ | refine DoneNH.ret .nil rfl rfl | refine DoneNH.ret .nil rfl ?_ | refine DoneNH.normal .nil rfl rfl | refine DoneNH.normal .nil rfl ?_))
              all_goals try (exfalso; omega)
              all_goals exact ⟨(i + 1, o2, _), ⟨by simp, hq⟩, ⟨by exact rfl, rfl, rfl, int_eq (by simp), trivial⟩, by simp only; omega⟩
        · rw [show Bs.length - i = 0 by omega, lpS] at hq
          simp only [Option.some.injEq] at hq
          subst hq
          clear hrec hext
          repeat' (first | (guard_target =~ WpA _ _ _ _ _ _; first | refine WpA.seq ?_ | refine WpA.drawU ?_ | refine WpA.regionU ?_ | refine WpA.block ?_ | refine WpA.ret ?_ | refine WpA.skip ?_ | refine WpA.exit ?_ | refine WpA.cond_true rfl ?_ | refine WpA.cond_false rfl ?_ | refine WpA.cond_ntrue rfl ?_ | refine WpA.cond_dec rfl (fun _ => ?_) (fun _ => ?_) | refine WpA.cond_not rfl (fun _ => ?_) (fun _ => ?_) | refine WpA.cond rfl (fun _ => ?_) (fun _ => ?_)) | (guard_target =~ RunU _ _ _ _ [] _ _ _ _; first | refine RunU.nilL ?_ | refine RunU.nilD (by kernel_rfl) ?_) | (guard_target =~ RunU _ _ _ _ (Oper.mk _ _ _ _ _ none :: _) _ _ _ _; refine RunU.cons step_any ?_) | ((fail_if_success (guard_target =~ @Eq _ _ _)); (fail_if_success (guard_target =~ @Exists _ _)); first | refine Then.next ?_ | refine InBlock.next ?_ | refine DoneNH.ret .nil rfl rfl | refine DoneNH.ret .nil rfl ?_ | refine DoneNH.normal .nil rfl rfl | refine DoneNH.normal .nil rfl ?_))
          all_goals try (exfalso; omega; done)
          all_goals try (exfalso; rw [hnn] at *; omega; done)
          all_goals first | exact DoneNH.ret .nil rfl rfl | exact DoneNH.normal .nil rfl rfl
end Go.Proofs.YtinenidbgmddhaaGreat
