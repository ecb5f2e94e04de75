/- The library's contracts at this program's numbers. No condition. -/
import Derived.Test.YthfdelcopmmblaaRAcA
import Derived.Shelf.SortG.Plain
import Derived.Shelf.SortG.SortNone
import Derived.Test.YthfdelcopmmblaaProg
namespace Go.Proofs.Ythfdelcopmmblaa
set_option maxHeartbeats 20000000
set_option linter.unusedVariables false
set_option linter.unusedSimpArgs false
open Go.Pv
open Go.ChangeShapes Go.WideShapes Go.ChangeAt Go.RowKit
attribute [local irreducible] RunU WpA Step CallG CallNG Done DoneN
instance fnOk104 : FnOk Try.prog 104 := ⟨_, Try.func104, rfl, by decide⟩
theorem loop_slots3 {α β : Type} {P : Program} {n : NN} {st : Nat → AV} {c : Code} {nx : Nat} {Q : Exit → (Nat → AV) → Nat → Prop} (slots : α → β → List (Nat × AV)) (C : α → β → Prop) (μ : α → β → Nat) (i0 : α) (k0 : β) (hC : C i0 k0) (h0 : Has st (slots i0 k0))
    (round : ∀ i k s nx, C i k → WpA P n c (puts s (slots i k)) nx (Then (fun s' _ => ∃ i' k', C i' k' ∧ Has s' (slots i' k') ∧ μ i' k' < μ i k) Q)) : WpA P n (.loop c) st nx Q :=
  WpA.loop_slots (ι := α × β) (fun p => slots p.1 p.2) (fun p => C p.1 p.2) (fun p => μ p.1 p.2) (i0, k0) hC h0 fun p s k hp =>
    (round p.1 p.2 s k hp).mono fun e s' k' q => by
      cases e with
      | normal => obtain ⟨i', j', q1, q2, q3⟩ := q; exact ⟨(i', j'), q1, q2, q3⟩
      | _ => exact q
theorem abs_c (a : Int) (h : -4611686018427387904 ≤ a ∧ a ≤ 4611686018427387904) : CallA Try.prog 104 [aI a] [rI (a.natAbs : Int)] [] := by
  refine callA_of _ Try.func104 rfl Try.ntmps104 (by first | exact ⟨rfl, rfl⟩ | (simp only [List.all_cons, List.all_nil, V.solid, D.solid, D.solids, solids_ints, solids_bools, solids_LL, Bool.and_self, Bool.and_true, and_self]; done) | simp [V.solid, D.solid, D.solids, solids_lits, solids_ints, solids_bools, solids_LL]) ?_
  repeat' (first | (guard_target =~ WpA _ _ _ _ _ _; first | refine WpA.seq ?_ | refine WpA.drawU ?_ | refine WpA.regionU ?_ | refine WpA.block ?_ | refine WpA.ret ?_ | refine WpA.skip ?_ | refine WpA.exit ?_ | refine WpA.cond_true rfl ?_ | refine WpA.cond_false rfl ?_ | refine WpA.cond_ntrue rfl ?_ | refine WpA.cond_dec rfl (fun _ => ?_) (fun _ => ?_) | refine WpA.cond_not rfl (fun _ => ?_) (fun _ => ?_) | refine WpA.cond rfl (fun _ => ?_) (fun _ => ?_)) | (guard_target =~ RunU _ _ _ _ [] _ _ _ _; first | refine RunU.nilL ?_ | refine RunU.nilD (by kernel_rfl) ?_) | (guard_target =~ RunU _ _ _ _ (Oper.mk _ _ _ _ _ none :: _) _ _ _ _; refine RunU.cons step_any ?_) | refine Then.next ?_ | refine InBlock.next ?_ | refine Done.ret (.one (by first | exact .c rfl | exact .own rfl | exact .als rfl rfl | exact .ptr rfl rfl | exact .part rfl rfl rfl) .nil) (.sh .nil) ?_ rfl)
  case refine_1 h1 => rw [show ((a.natAbs : Nat) : Int) = -a by omega]
  case refine_2 h1 => rw [show ((a.natAbs : Nat) : Int) = a by omega]
end Go.Proofs.Ythfdelcopmmblaa
namespace Go.Proofs.Ythfdelcopmmblaa
set_option maxHeartbeats 20000000
set_option linter.unusedVariables false
set_option linter.unusedSimpArgs false
open Go.Pv
open Go.ChangeShapes Go.WideShapes Go.ChangeAt Go.RowKit
attribute [local irreducible] RunU WpA Step CallG CallNG Done DoneN
end Go.Proofs.Ythfdelcopmmblaa
namespace Go.Proofs.Ythfdelcopmmblaa
open Go.Shelf
def sort64_ren : Go.Shelf.Ren := ⟨fun | 53 => 80 | 64 => 88 | 63 => 87 | 78 => 101 | 79 => 102 | 70 => 92 | 71 => 93 | 72 => 94 | 73 => 95 | 74 => 96 | 75 => 97 | 59 => 98 | 76 => 99 | 77 => 100 | 88 => 105 | 89 => 106 | 90 => 107 | 91 => 108 | 92 => 109 | 68 => 91 | 96 => 111 | n => n, fun | 22 => 31 | 23 => 2 | 3 => 3 | 51 => 86 | 0 => 0 | 67 => 112 | 69 => 68 | 4 => 4 | 61 => 104 | 60 => 103 | 44 => 109 | 5 => 5 | 9 => 9 | 75 => 118 | 79 => 122 | 83 => 126 | 84 => 127 | n => n, fun | n => n⟩
theorem sort64 : Go.Proofs.SlLaysN.n53 Try.prog sort64_ren := {
  mixed := by kernel_rfl
  f53 := ⟨Try.f80.name, by decide, Try.func80.trans (congrArg some (by kernel_rfl))⟩
  f59 := ⟨Try.f98.name, by decide, Try.func98.trans (congrArg some (by kernel_rfl))⟩
  f63 := ⟨Try.f87.name, by decide, Try.func87.trans (congrArg some (by kernel_rfl))⟩
  f64 := Try.func88.trans (congrArg some (by kernel_rfl))
  f68 := ⟨Try.f91.name, by decide, Try.func91.trans (congrArg some (by kernel_rfl))⟩
  f70 := ⟨Try.f92.name, by decide, Try.func92.trans (congrArg some (by kernel_rfl))⟩
  f71 := ⟨Try.f93.name, by decide, Try.func93.trans (congrArg some (by kernel_rfl))⟩
  f72 := ⟨Try.f94.name, by decide, Try.func94.trans (congrArg some (by kernel_rfl))⟩
  f73 := ⟨Try.f95.name, by decide, Try.func95.trans (congrArg some (by kernel_rfl))⟩
  f74 := ⟨Try.f96.name, by decide, Try.func96.trans (congrArg some (by kernel_rfl))⟩
  f75 := ⟨Try.f97.name, by decide, Try.func97.trans (congrArg some (by kernel_rfl))⟩
  f76 := ⟨Try.f99.name, by decide, Try.func99.trans (congrArg some (by kernel_rfl))⟩
  f77 := ⟨Try.f100.name, by decide, Try.func100.trans (congrArg some (by kernel_rfl))⟩
  f78 := Try.func101.trans (congrArg some (by kernel_rfl))
  f79 := Try.func102.trans (congrArg some (by kernel_rfl))
  f88 := ⟨Try.f105.name, by decide, Try.func105.trans (congrArg some (by kernel_rfl))⟩
  f89 := Try.func106.trans (congrArg some (by kernel_rfl))
  f90 := Try.func107.trans (congrArg some (by kernel_rfl))
  f91 := ⟨Try.f108.name, by decide, Try.func108.trans (congrArg some (by kernel_rfl))⟩
  f92 := ⟨Try.f109.name, by decide, Try.func109.trans (congrArg some (by kernel_rfl))⟩
  f96 := ⟨Try.f111.name, by decide, Try.func111.trans (congrArg some (by kernel_rfl))⟩
  t0 := Try.underlying0
  a0 := Try.isAgg0
  z0 := Try.sizeOf0
  v0 := Try.zeroValue0
  t3 := Try.underlying3
  a3 := Try.isAgg3
  z3 := Try.sizeOf3
  v3 := Try.zeroValue3
  t4 := Try.underlying4
  a4 := Try.isAgg4
  z4 := Try.sizeOf4
  v4 := Try.zeroValue4
  t5 := Try.underlying5
  a5 := Try.isAgg5
  z5 := Try.sizeOf5
  v5 := Try.zeroValue5
  t9 := Try.underlying9
  a9 := Try.isAgg9
  z9 := Try.sizeOf9
  v9 := Try.zeroValue9
  t22 := Try.underlying31
  a22 := Try.isAgg31
  z22 := Try.sizeOf31
  v22 := Try.zeroValue31
  t23 := Try.underlying2
  a23 := Try.isAgg2
  z23 := Try.sizeOf2
  v23 := Try.zeroValue2
  t44 := Try.underlying109
  a44 := Try.isAgg109
  z44 := Try.sizeOf109
  v44 := Try.zeroValue109
  t51 := Try.underlying86
  a51 := Try.isAgg86
  z51 := Try.sizeOf86
  v51 := Try.zeroValue86
  t60 := Try.underlying103
  a60 := Try.isAgg103
  z60 := Try.sizeOf103
  v60 := Try.zeroValue103
  t61 := Try.underlying104
  a61 := Try.isAgg104
  z61 := Try.sizeOf104
  v61 := Try.zeroValue104
  t67 := Try.underlying112
  a67 := Try.isAgg112
  z67 := Try.sizeOf112
  v67 := Try.zeroValue112
  t69 := Try.underlying68
  a69 := Try.isAgg68
  z69 := Try.sizeOf68
  v69 := Try.zeroValue68
  t75 := Try.underlying118
  a75 := Try.isAgg118
  z75 := Try.sizeOf118
  v75 := Try.zeroValue118
  t79 := Try.underlying122
  a79 := Try.isAgg122
  z79 := Try.sizeOf122
  v79 := Try.zeroValue122
  t83 := Try.underlying126
  a83 := Try.isAgg126
  z83 := Try.sizeOf126
  v83 := Try.zeroValue126
  t84 := Try.underlying127
  a84 := Try.isAgg127
  z84 := Try.sizeOf127
  v84 := Try.zeroValue127 }
end Go.Proofs.Ythfdelcopmmblaa
