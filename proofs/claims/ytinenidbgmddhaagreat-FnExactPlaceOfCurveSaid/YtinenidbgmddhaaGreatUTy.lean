/- What the walks ask of this program's types. No condition. -/
import Derived.Test.YtinenidbgmddhaaGreatUPvS
import Derived.Test.YtinenidbgmddhaaGreatProg
namespace Go.Proofs.YtinenidbgmddhaaGreat
open Go.Pv
instance : Mixed Tryz.prog := ⟨by kernel_rfl⟩
instance : OneTy Tryz.prog 2 := .of Tryz.underlying2 rfl (by kernel_rfl)
instance : ZeroTy Tryz.prog 2 [.lit (.int .i64 0)] := .of (z := (.int .i64 0)) (by kernel_rfl) (.cons (zero_lit rfl) .nil)
instance : IntTy Tryz.prog 2 .i64 := ⟨Tryz.underlying2⟩
instance : OneTy Tryz.prog 3 := .of Tryz.underlying3 rfl (by kernel_rfl)
instance : ZeroTy Tryz.prog 3 [.lit (.int .i64 0)] := .of (z := (.int .i64 0)) (by kernel_rfl) (.cons (zero_lit rfl) .nil)
instance : IntTy Tryz.prog 3 .i64 := ⟨Tryz.underlying3⟩
instance : OneTy Tryz.prog 4 := .of Tryz.underlying4 rfl (by kernel_rfl)
instance : ZeroTy Tryz.prog 4 [.lit (.bool false)] := .of (z := (.bool false)) (by kernel_rfl) (.cons (zero_lit rfl) .nil)
instance : BoolTy Tryz.prog 4 := ⟨Tryz.underlying4⟩
instance : OneTy Tryz.prog 5 := .of Tryz.underlying5 rfl (by kernel_rfl)
instance : ZeroTy Tryz.prog 5 [.lit (.int .u8 0)] := .of (z := (.int .u8 0)) (by kernel_rfl) (.cons (zero_lit rfl) .nil)
instance : IntTy Tryz.prog 5 .u8 := ⟨Tryz.underlying5⟩
instance : OneTy Tryz.prog 9 := .of Tryz.underlying9 rfl (by kernel_rfl)
instance : ZeroTy Tryz.prog 9 [.lit (.string ⟨#[]⟩)] := .of (z := (.string ⟨#[]⟩)) (by kernel_rfl) (.cons (zero_lit rfl) .nil)
instance : OneTy Tryz.prog 25 := .of Tryz.underlying25 rfl (by kernel_rfl)
instance : ZeroTy Tryz.prog 25 [.sl true 2 []] := .of (z := (.slice none 0 0)) (by kernel_rfl) (.cons (zero_nil) .nil)
instance : SliceTy Tryz.prog 25 2 := .of (z := (.agg #[.slice none 0 0, .slice none 0 0])) (bytes := 48) Tryz.underlying25 (by kernel_rfl) rfl
instance : OneTy Tryz.prog 30 := .of Tryz.underlying30 rfl (by kernel_rfl)
instance : ZeroTy Tryz.prog 30 [.sl true 1 []] := .of (z := (.slice none 0 0)) (by kernel_rfl) (.cons (zero_nil) .nil)
instance : SliceTy Tryz.prog 30 1 := .of (z := (.agg #[.slice none 0 0])) (bytes := 24) Tryz.underlying30 (by kernel_rfl) rfl
instance : OneTy Tryz.prog 31 := .of Tryz.underlying31 rfl (by kernel_rfl)
instance : ZeroTy Tryz.prog 31 [.sl true 1 []] := .of (z := (.slice none 0 0)) (by kernel_rfl) (.cons (zero_nil) .nil)
instance : SliceTy Tryz.prog 31 1 := .of (z := (.slice none 0 0)) (bytes := 24) Tryz.underlying31 (by kernel_rfl) rfl
instance : MakeTy Tryz.prog 31 (.sl true 1 []) := .of (z := (.slice none 0 0)) (bytes := 24) Tryz.underlying31 (by kernel_rfl) (by decide) rfl (zero_nil)
instance : StructTy Tryz.prog 33 2 := .of Tryz.underlying33 (by kernel_rfl)
instance : BuildTy Tryz.prog 33 [1, 1] := .of (z := (.agg #[.slice none 0 0, .slice none 0 0])) Tryz.underlying33 (by kernel_rfl) (by kernel_rfl) rfl
instance : FieldTy Tryz.prog 33 0 0 := .of (ft := 30) (s := 0) Tryz.underlying33 rfl (by kernel_rfl)
instance : FieldTy Tryz.prog 33 1 1 := .of (ft := 31) (s := 0) Tryz.underlying33 rfl (by kernel_rfl)
instance : ZeroTy Tryz.prog 33 [.sl true 1 [], .sl true 1 []] := .of (z := (.agg #[.slice none 0 0, .slice none 0 0])) (by kernel_rfl) (.cons (zero_nil) (.cons (zero_nil) .nil))
instance : OneTy Tryz.prog 36 := .of Tryz.underlying36 rfl (by kernel_rfl)
instance : ZeroTy Tryz.prog 36 [.sl true 1 []] := .of (z := (.slice none 0 0)) (by kernel_rfl) (.cons (zero_nil) .nil)
instance : SliceTy Tryz.prog 36 1 := .of (z := (.agg #[.slice none 0 0])) (bytes := 24) Tryz.underlying36 (by kernel_rfl) rfl
instance : StructTy Tryz.prog 38 2 := .of Tryz.underlying38 (by kernel_rfl)
instance : BuildTy Tryz.prog 38 [1, 1] := .of (z := (.agg #[.slice none 0 0, .slice none 0 0])) Tryz.underlying38 (by kernel_rfl) (by kernel_rfl) rfl
instance : FieldTy Tryz.prog 38 0 0 := .of (ft := 36) (s := 0) Tryz.underlying38 rfl (by kernel_rfl)
instance : FieldTy Tryz.prog 38 1 1 := .of (ft := 31) (s := 0) Tryz.underlying38 rfl (by kernel_rfl)
instance : ZeroTy Tryz.prog 38 [.sl true 1 [], .sl true 1 []] := .of (z := (.agg #[.slice none 0 0, .slice none 0 0])) (by kernel_rfl) (.cons (zero_nil) (.cons (zero_nil) .nil))
instance : OneTy Tryz.prog 53 := .of Tryz.underlying53 rfl (by kernel_rfl)
instance : ZeroTy Tryz.prog 53 [.lit .nilFunc] := .of (z := (.nilFunc)) (by kernel_rfl) (.cons (zero_lit rfl) .nil)
instance : OneTy Tryz.prog 55 := .of Tryz.underlying55 rfl (by kernel_rfl)
instance : ZeroTy Tryz.prog 55 [.sl true 1 []] := .of (z := (.slice none 0 0)) (by kernel_rfl) (.cons (zero_nil) .nil)
instance : SliceTy Tryz.prog 55 1 := .of (z := (.int .i64 0)) (bytes := 8) Tryz.underlying55 (by kernel_rfl) rfl
instance : MakeTy Tryz.prog 55 (.lit (.int .i64 0)) := .of (z := (.int .i64 0)) (bytes := 8) Tryz.underlying55 (by kernel_rfl) (by decide) rfl (zero_lit rfl)
instance : StructTy Tryz.prog 76 3 := .of Tryz.underlying76 (by kernel_rfl)
instance : BuildTy Tryz.prog 76 [1, 1, 1] := .of (z := (.agg #[.int .i64 0, .slice none 0 0, .slice none 0 0])) Tryz.underlying76 (by kernel_rfl) (by kernel_rfl) rfl
instance : FieldTy Tryz.prog 76 0 0 := .of (ft := 2) (s := 0) Tryz.underlying76 rfl (by kernel_rfl)
instance : FieldTy Tryz.prog 76 1 1 := .of (ft := 36) (s := 0) Tryz.underlying76 rfl (by kernel_rfl)
instance : FieldTy Tryz.prog 76 2 2 := .of (ft := 25) (s := 0) Tryz.underlying76 rfl (by kernel_rfl)
instance : ZeroTy Tryz.prog 76 [.lit (.int .i64 0), .sl true 1 [], .sl true 2 []] := .of (z := (.agg #[.int .i64 0, .slice none 0 0, .slice none 0 0])) (by kernel_rfl) (.cons (zero_lit rfl) (.cons (zero_nil) (.cons (zero_nil) .nil)))
instance : StructTy Tryz.prog 79 1 := .of Tryz.underlying79 (by kernel_rfl)
instance : BuildTy Tryz.prog 79 [1] := .of (z := (.agg #[.slice none 0 0])) Tryz.underlying79 (by kernel_rfl) (by kernel_rfl) rfl
instance : FieldTy Tryz.prog 79 0 0 := .of (ft := 55) (s := 0) Tryz.underlying79 rfl (by kernel_rfl)
instance : ZeroTy Tryz.prog 79 [.sl true 1 []] := .of (z := (.agg #[.slice none 0 0])) (by kernel_rfl) (.cons (zero_nil) .nil)
instance : OneTy Tryz.prog 82 := .of Tryz.underlying82 rfl (by kernel_rfl)
instance : ZeroTy Tryz.prog 82 [.lit .nilFunc] := .of (z := (.nilFunc)) (by kernel_rfl) (.cons (zero_lit rfl) .nil)
instance : OneTy Tryz.prog 87 := .of Tryz.underlying87 rfl (by kernel_rfl)
instance : ZeroTy Tryz.prog 87 [.lit .nilFunc] := .of (z := (.nilFunc)) (by kernel_rfl) (.cons (zero_lit rfl) .nil)
instance : StructTy Tryz.prog 90 1 := .of Tryz.underlying90 (by kernel_rfl)
instance : BuildTy Tryz.prog 90 [1] := .of (z := (.agg #[.slice none 0 0])) Tryz.underlying90 (by kernel_rfl) (by kernel_rfl) rfl
instance : FieldTy Tryz.prog 90 0 0 := .of (ft := 55) (s := 0) Tryz.underlying90 rfl (by kernel_rfl)
instance : ZeroTy Tryz.prog 90 [.sl true 1 []] := .of (z := (.agg #[.slice none 0 0])) (by kernel_rfl) (.cons (zero_nil) .nil)
instance : OneTy Tryz.prog 91 := .of Tryz.underlying91 rfl (by kernel_rfl)
instance : ZeroTy Tryz.prog 91 [.lit .nilFunc] := .of (z := (.nilFunc)) (by kernel_rfl) (.cons (zero_lit rfl) .nil)
instance : OneTy Tryz.prog 102 := .of Tryz.underlying102 rfl (by kernel_rfl)
instance : ZeroTy Tryz.prog 102 [.lit (.int .u64 0)] := .of (z := (.int .u64 0)) (by kernel_rfl) (.cons (zero_lit rfl) .nil)
instance : IntTy Tryz.prog 102 .u64 := ⟨Tryz.underlying102⟩
instance : OneTy Tryz.prog 105 := .of Tryz.underlying105 rfl (by kernel_rfl)
instance : ZeroTy Tryz.prog 105 [.lit (.int .u64 0)] := .of (z := (.int .u64 0)) (by kernel_rfl) (.cons (zero_lit rfl) .nil)
instance : IntTy Tryz.prog 105 .u64 := ⟨Tryz.underlying105⟩
instance : OneTy Tryz.prog 115 := .of Tryz.underlying115 rfl (by kernel_rfl)
instance : ZeroTy Tryz.prog 115 [.lit (.pointer none)] := .of (z := (.pointer none)) (by kernel_rfl) (.cons (zero_lit rfl) .nil)
instance : OneTy Tryz.prog 120 := .of Tryz.underlying120 rfl (by kernel_rfl)
instance : ZeroTy Tryz.prog 120 [.sl true 1 []] := .of (z := (.slice none 0 0)) (by kernel_rfl) (.cons (zero_nil) .nil)
instance : SliceTy Tryz.prog 120 1 := .of (z := (.int .i64 0)) (bytes := 8) Tryz.underlying120 (by kernel_rfl) rfl
instance : MakeTy Tryz.prog 120 (.lit (.int .i64 0)) := .of (z := (.int .i64 0)) (bytes := 8) Tryz.underlying120 (by kernel_rfl) (by decide) rfl (zero_lit rfl)
instance : OneTy Tryz.prog 143 := .of Tryz.underlying143 rfl (by kernel_rfl)
instance : ZeroTy Tryz.prog 143 [.lit (.int .i64 0)] := .of (z := (.int .i64 0)) (by kernel_rfl) (.cons (zero_lit rfl) .nil)
instance : IntTy Tryz.prog 143 .i64 := ⟨Tryz.underlying143⟩
instance : OneTy Tryz.prog 151 := .of Tryz.underlying151 rfl (by kernel_rfl)
instance : ZeroTy Tryz.prog 151 [.lit (.int .u32 0)] := .of (z := (.int .u32 0)) (by kernel_rfl) (.cons (zero_lit rfl) .nil)
instance : IntTy Tryz.prog 151 .u32 := ⟨Tryz.underlying151⟩
instance : OneTy Tryz.prog 170 := .of Tryz.underlying170 rfl (by kernel_rfl)
instance : ZeroTy Tryz.prog 170 [.lit (.int .u64 0)] := .of (z := (.int .u64 0)) (by kernel_rfl) (.cons (zero_lit rfl) .nil)
instance : IntTy Tryz.prog 170 .u64 := ⟨Tryz.underlying170⟩
instance : OneTy Tryz.prog 174 := .of Tryz.underlying174 rfl (by kernel_rfl)
instance : ZeroTy Tryz.prog 174 [.lit (.pointer none)] := .of (z := (.pointer none)) (by kernel_rfl) (.cons (zero_lit rfl) .nil)
instance : OneTy Tryz.prog 184 := .of Tryz.underlying184 rfl (by kernel_rfl)
instance : ZeroTy Tryz.prog 184 [.lit (.pointer none)] := .of (z := (.pointer none)) (by kernel_rfl) (.cons (zero_lit rfl) .nil)
end Go.Proofs.YtinenidbgmddhaaGreat
