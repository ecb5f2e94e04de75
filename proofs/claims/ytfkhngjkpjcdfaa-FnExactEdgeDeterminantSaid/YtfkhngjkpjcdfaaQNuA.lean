/- The library's contracts at this program's numbers. No condition. -/
import Derived.Test.YtfkhngjkpjcdfaaQAcA
import Derived.Shelf.SortG.Plain
import Derived.Shelf.SortG.SortNone
import Derived.Test.YtfkhngjkpjcdfaaProg
namespace Go.Proofs.Ytfkhngjkpjcdfaa
set_option maxHeartbeats 20000000
set_option linter.unusedVariables false
set_option linter.unusedSimpArgs false
open Go.Pv
open Go.ChangeShapes Go.WideShapes Go.ChangeAt Go.RowKit
attribute [local irreducible] RunU WpA Step CallG CallNG Done DoneN
instance fnOk128 : FnOk Try.prog 128 := ⟨_, Try.func128, rfl, by decide⟩
instance fnOk132 : FnOk Try.prog 132 := ⟨_, Try.func132, rfl, by decide⟩
instance fnOk154 : FnOk Try.prog 154 := ⟨_, Try.func154, rfl, by decide⟩
theorem loop_slots3 {α β : Type} {P : Program} {n : NN} {st : Nat → AV} {c : Code} {nx : Nat} {Q : Exit → (Nat → AV) → Nat → Prop} (slots : α → β → List (Nat × AV)) (C : α → β → Prop) (μ : α → β → Nat) (i0 : α) (k0 : β) (hC : C i0 k0) (h0 : Has st (slots i0 k0))
    (round : ∀ i k s nx, C i k → WpA P n c (puts s (slots i k)) nx (Then (fun s' _ => ∃ i' k', C i' k' ∧ Has s' (slots i' k') ∧ μ i' k' < μ i k) Q)) : WpA P n (.loop c) st nx Q :=
  WpA.loop_slots (ι := α × β) (fun p => slots p.1 p.2) (fun p => C p.1 p.2) (fun p => μ p.1 p.2) (i0, k0) hC h0 fun p s k hp =>
    (round p.1 p.2 s k hp).mono fun e s' k' q => by
      cases e with
      | normal => obtain ⟨i', j', q1, q2, q3⟩ := q; exact ⟨(i', j'), q1, q2, q3⟩
      | _ => exact q
theorem abs_c (a : Int) (h : -4611686018427387904 ≤ a ∧ a ≤ 4611686018427387904) : CallA Try.prog 154 [aI a] [rI (a.natAbs : Int)] [] := by
  refine callA_of _ Try.func154 rfl Try.ntmps154 (by first | exact ⟨rfl, rfl⟩ | (simp only [List.all_cons, List.all_nil, V.solid, D.solid, D.solids, solids_ints, solids_bools, solids_LL, Bool.and_self, Bool.and_true, and_self]; done) | simp [V.solid, D.solid, D.solids, solids_lits, solids_ints, solids_bools, solids_LL]) ?_
  repeat' (first | (guard_target =~ WpA _ _ _ _ _ _; first | refine WpA.seq ?_ | refine WpA.drawU ?_ | refine WpA.regionU ?_ | refine WpA.block ?_ | refine WpA.ret ?_ | refine WpA.skip ?_ | refine WpA.exit ?_ | refine WpA.cond_true rfl ?_ | refine WpA.cond_false rfl ?_ | refine WpA.cond_ntrue rfl ?_ | refine WpA.cond_dec rfl (fun _ => ?_) (fun _ => ?_) | refine WpA.cond_not rfl (fun _ => ?_) (fun _ => ?_) | refine WpA.cond rfl (fun _ => ?_) (fun _ => ?_)) | (guard_target =~ RunU _ _ _ _ [] _ _ _ _; first | refine RunU.nilL ?_ | refine RunU.nilD (by kernel_rfl) ?_) | (guard_target =~ RunU _ _ _ _ (Oper.mk _ _ _ _ _ none :: _) _ _ _ _; refine RunU.cons step_any ?_) | refine Then.next ?_ | refine InBlock.next ?_ | refine Done.ret (.one (by first | exact .c rfl | exact .own rfl | exact .als rfl rfl | exact .ptr rfl rfl | exact .part rfl rfl rfl) .nil) (.sh .nil) ?_ rfl)
  case refine_1 h1 => rw [show ((a.natAbs : Nat) : Int) = -a by omega]
  case refine_2 h1 => rw [show ((a.natAbs : Nat) : Int) = a by omega]
end Go.Proofs.Ytfkhngjkpjcdfaa
namespace Go.Proofs.Ytfkhngjkpjcdfaa
set_option maxHeartbeats 20000000
set_option linter.unusedVariables false
set_option linter.unusedSimpArgs false
open Go.Pv
open Go.ChangeShapes Go.WideShapes Go.ChangeAt Go.RowKit
attribute [local irreducible] RunU WpA Step CallG CallNG Done DoneN
instance fnOk71 : FnOk Try.prog 71 := ⟨_, Try.func71, rfl, by decide⟩
instance fnOk70 : FnOk Try.prog 70 := ⟨_, Try.func70, rfl, by decide⟩
instance fnOk76 : FnOk Try.prog 76 := ⟨_, Try.func76, rfl, by decide⟩
instance fnOk134 : FnOk Try.prog 134 := ⟨_, Try.func134, rfl, by decide⟩
instance fnOk77 : FnOk Try.prog 77 := ⟨_, Try.func77, rfl, by decide⟩
end Go.Proofs.Ytfkhngjkpjcdfaa
namespace Go.Proofs.Ytfkhngjkpjcdfaa
open Go.Shelf
def sort64_ren : Go.Shelf.Ren := ⟨fun | 53 => 149 | 64 => 163 | 63 => 178 | 78 => 189 | 79 => 190 | 70 => 193 | 71 => 194 | 72 => 195 | 73 => 196 | 74 => 197 | 75 => 198 | 59 => 199 | 76 => 200 | 77 => 201 | 88 => 208 | 89 => 203 | 90 => 204 | 91 => 209 | 92 => 210 | 68 => 164 | 96 => 212 | n => n, fun | 22 => 30 | 23 => 2 | 3 => 3 | 51 => 130 | 0 => 0 | 67 => 153 | 69 => 156 | 4 => 4 | 61 => 164 | 60 => 163 | 44 => 168 | 5 => 5 | 9 => 9 | 75 => 181 | 79 => 185 | 83 => 191 | 84 => 192 | n => n, fun | n => n⟩
theorem sort64 : Go.Proofs.SlLaysN.n53 Try.prog sort64_ren := {
  mixed := by kernel_rfl
  f53 := ⟨Try.f149.name, by decide, Try.func149.trans (congrArg some (by kernel_rfl))⟩
  f59 := ⟨Try.f199.name, by decide, Try.func199.trans (congrArg some (by kernel_rfl))⟩
  f63 := ⟨Try.f178.name, by decide, Try.func178.trans (congrArg some (by kernel_rfl))⟩
  f64 := Try.func163.trans (congrArg some (by kernel_rfl))
  f68 := ⟨Try.f164.name, by decide, Try.func164.trans (congrArg some (by kernel_rfl))⟩
  f70 := ⟨Try.f193.name, by decide, Try.func193.trans (congrArg some (by kernel_rfl))⟩
  f71 := ⟨Try.f194.name, by decide, Try.func194.trans (congrArg some (by kernel_rfl))⟩
  f72 := ⟨Try.f195.name, by decide, Try.func195.trans (congrArg some (by kernel_rfl))⟩
  f73 := ⟨Try.f196.name, by decide, Try.func196.trans (congrArg some (by kernel_rfl))⟩
  f74 := ⟨Try.f197.name, by decide, Try.func197.trans (congrArg some (by kernel_rfl))⟩
  f75 := ⟨Try.f198.name, by decide, Try.func198.trans (congrArg some (by kernel_rfl))⟩
  f76 := ⟨Try.f200.name, by decide, Try.func200.trans (congrArg some (by kernel_rfl))⟩
  f77 := ⟨Try.f201.name, by decide, Try.func201.trans (congrArg some (by kernel_rfl))⟩
  f78 := Try.func189.trans (congrArg some (by kernel_rfl))
  f79 := Try.func190.trans (congrArg some (by kernel_rfl))
  f88 := ⟨Try.f208.name, by decide, Try.func208.trans (congrArg some (by kernel_rfl))⟩
  f89 := Try.func203.trans (congrArg some (by kernel_rfl))
  f90 := Try.func204.trans (congrArg some (by kernel_rfl))
  f91 := ⟨Try.f209.name, by decide, Try.func209.trans (congrArg some (by kernel_rfl))⟩
  f92 := ⟨Try.f210.name, by decide, Try.func210.trans (congrArg some (by kernel_rfl))⟩
  f96 := ⟨Try.f212.name, by decide, Try.func212.trans (congrArg some (by kernel_rfl))⟩
  t0 := Try.underlying0
  a0 := Try.isAgg0
  z0 := Try.sizeOf0
  v0 := Try.zeroValue0
  t3 := Try.underlying3
  a3 := Try.isAgg3
  z3 := Try.sizeOf3
  v3 := Try.zeroValue3
  t4 := Try.underlying4
  a4 := Try.isAgg4
  z4 := Try.sizeOf4
  v4 := Try.zeroValue4
  t5 := Try.underlying5
  a5 := Try.isAgg5
  z5 := Try.sizeOf5
  v5 := Try.zeroValue5
  t9 := Try.underlying9
  a9 := Try.isAgg9
  z9 := Try.sizeOf9
  v9 := Try.zeroValue9
  t22 := Try.underlying30
  a22 := Try.isAgg30
  z22 := Try.sizeOf30
  v22 := Try.zeroValue30
  t23 := Try.underlying2
  a23 := Try.isAgg2
  z23 := Try.sizeOf2
  v23 := Try.zeroValue2
  t44 := Try.underlying168
  a44 := Try.isAgg168
  z44 := Try.sizeOf168
  v44 := Try.zeroValue168
  t51 := Try.underlying130
  a51 := Try.isAgg130
  z51 := Try.sizeOf130
  v51 := Try.zeroValue130
  t60 := Try.underlying163
  a60 := Try.isAgg163
  z60 := Try.sizeOf163
  v60 := Try.zeroValue163
  t61 := Try.underlying164
  a61 := Try.isAgg164
  z61 := Try.sizeOf164
  v61 := Try.zeroValue164
  t67 := Try.underlying153
  a67 := Try.isAgg153
  z67 := Try.sizeOf153
  v67 := Try.zeroValue153
  t69 := Try.underlying156
  a69 := Try.isAgg156
  z69 := Try.sizeOf156
  v69 := Try.zeroValue156
  t75 := Try.underlying181
  a75 := Try.isAgg181
  z75 := Try.sizeOf181
  v75 := Try.zeroValue181
  t79 := Try.underlying185
  a79 := Try.isAgg185
  z79 := Try.sizeOf185
  v79 := Try.zeroValue185
  t83 := Try.underlying191
  a83 := Try.isAgg191
  z83 := Try.sizeOf191
  v83 := Try.zeroValue191
  t84 := Try.underlying192
  a84 := Try.isAgg192
  z84 := Try.sizeOf192
  v84 := Try.zeroValue192 }
end Go.Proofs.Ytfkhngjkpjcdfaa
