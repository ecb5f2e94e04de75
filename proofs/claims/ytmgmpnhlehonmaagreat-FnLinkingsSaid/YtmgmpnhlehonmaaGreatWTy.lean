/- What the walks ask of this program's types. No condition. -/
import Derived.Test.YtmgmpnhlehonmaaGreatWPvS
import Derived.Test.YtmgmpnhlehonmaaGreatProg
namespace Go.Proofs.YtmgmpnhlehonmaaGreat
open Go.Pv
instance : Zt3 Tryz.prog := ⟨by kernel_rfl⟩
instance : X6 Tryz.prog 2 := .of Tryz.underlying2 rfl (by kernel_rfl)
instance : Xv Tryz.prog 2 [.lit (.int .i64 0)] := .of (z := (.int .i64 0)) (by kernel_rfl) (.cons (zL_ rfl) .nil)
instance : J0 Tryz.prog 2 .i64 := ⟨Tryz.underlying2⟩
instance : X6 Tryz.prog 3 := .of Tryz.underlying3 rfl (by kernel_rfl)
instance : Xv Tryz.prog 3 [.lit (.int .i64 0)] := .of (z := (.int .i64 0)) (by kernel_rfl) (.cons (zL_ rfl) .nil)
instance : J0 Tryz.prog 3 .i64 := ⟨Tryz.underlying3⟩
instance : X6 Tryz.prog 4 := .of Tryz.underlying4 rfl (by kernel_rfl)
instance : Xv Tryz.prog 4 [.lit (.bool false)] := .of (z := (.bool false)) (by kernel_rfl) (.cons (zL_ rfl) .nil)
instance : Zk1 Tryz.prog 4 := ⟨Tryz.underlying4⟩
instance : X6 Tryz.prog 5 := .of Tryz.underlying5 rfl (by kernel_rfl)
instance : Xv Tryz.prog 5 [.lit (.int .u8 0)] := .of (z := (.int .u8 0)) (by kernel_rfl) (.cons (zL_ rfl) .nil)
instance : J0 Tryz.prog 5 .u8 := ⟨Tryz.underlying5⟩
instance : X6 Tryz.prog 9 := .of Tryz.underlying9 rfl (by kernel_rfl)
instance : Xv Tryz.prog 9 [.lit (.string ⟨#[]⟩)] := .of (z := (.string ⟨#[]⟩)) (by kernel_rfl) (.cons (zL_ rfl) .nil)
instance : X6 Tryz.prog 22 := .of Tryz.underlying22 rfl (by kernel_rfl)
instance : Xv Tryz.prog 22 [.sl true 1 []] := .of (z := (.slice none 0 0)) (by kernel_rfl) (.cons (Xt) .nil)
instance : Zu Tryz.prog 22 1 := .of (z := (.int .u8 0)) (bytes := 1) Tryz.underlying22 (by kernel_rfl) rfl
instance : Wu Tryz.prog 22 (.lit (.int .u8 0)) := .of (z := (.int .u8 0)) (bytes := 1) Tryz.underlying22 (by kernel_rfl) (by decide) rfl (zL_ rfl)
instance : X6 Tryz.prog 24 := .of Tryz.underlying24 rfl (by kernel_rfl)
instance : Xv Tryz.prog 24 [.sl true 1 []] := .of (z := (.slice none 0 0)) (by kernel_rfl) (.cons (Xt) .nil)
instance : Zu Tryz.prog 24 1 := .of (z := (.int .i64 0)) (bytes := 8) Tryz.underlying24 (by kernel_rfl) rfl
instance : Wu Tryz.prog 24 (.lit (.int .i64 0)) := .of (z := (.int .i64 0)) (bytes := 8) Tryz.underlying24 (by kernel_rfl) (by decide) rfl (zL_ rfl)
instance : X6 Tryz.prog 25 := .of Tryz.underlying25 rfl (by kernel_rfl)
instance : Xv Tryz.prog 25 [.sl true 1 []] := .of (z := (.slice none 0 0)) (by kernel_rfl) (.cons (Xt) .nil)
instance : Zu Tryz.prog 25 1 := .of (z := (.slice none 0 0)) (bytes := 24) Tryz.underlying25 (by kernel_rfl) rfl
instance : Wu Tryz.prog 25 (.sl true 1 []) := .of (z := (.slice none 0 0)) (bytes := 24) Tryz.underlying25 (by kernel_rfl) (by decide) rfl (Xt)
instance : X8 Tryz.prog 27 2 := .of Tryz.underlying27 (by kernel_rfl)
instance : Um Tryz.prog 27 [1, 1] := .of (z := (.agg #[.slice none 0 0, .slice none 0 0])) Tryz.underlying27 (by kernel_rfl) (by kernel_rfl) rfl
instance : Xw Tryz.prog 27 0 0 := .of (ft := 24) (s := 0) Tryz.underlying27 rfl (by kernel_rfl)
instance : Xw Tryz.prog 27 1 1 := .of (ft := 25) (s := 0) Tryz.underlying27 rfl (by kernel_rfl)
instance : Xv Tryz.prog 27 [.sl true 1 [], .sl true 1 []] := .of (z := (.agg #[.slice none 0 0, .slice none 0 0])) (by kernel_rfl) (.cons (Xt) (.cons (Xt) .nil))
instance : X8 Tryz.prog 48 3 := .of Tryz.underlying48 (by kernel_rfl)
instance : Um Tryz.prog 48 [1, 1, 1] := .of (z := (.agg #[.slice none 0 0, .slice none 0 0, .slice none 0 0])) Tryz.underlying48 (by kernel_rfl) (by kernel_rfl) rfl
instance : Xw Tryz.prog 48 0 0 := .of (ft := 24) (s := 0) Tryz.underlying48 rfl (by kernel_rfl)
instance : Xw Tryz.prog 48 1 1 := .of (ft := 24) (s := 0) Tryz.underlying48 rfl (by kernel_rfl)
instance : Xw Tryz.prog 48 2 2 := .of (ft := 24) (s := 0) Tryz.underlying48 rfl (by kernel_rfl)
instance : Xv Tryz.prog 48 [.sl true 1 [], .sl true 1 [], .sl true 1 []] := .of (z := (.agg #[.slice none 0 0, .slice none 0 0, .slice none 0 0])) (by kernel_rfl) (.cons (Xt) (.cons (Xt) (.cons (Xt) .nil)))
instance : X6 Tryz.prog 63 := .of Tryz.underlying63 rfl (by kernel_rfl)
instance : Xv Tryz.prog 63 [.lit (.int .u64 0)] := .of (z := (.int .u64 0)) (by kernel_rfl) (.cons (zL_ rfl) .nil)
instance : J0 Tryz.prog 63 .u64 := ⟨Tryz.underlying63⟩
instance : X6 Tryz.prog 68 := .of Tryz.underlying68 rfl (by kernel_rfl)
instance : Xv Tryz.prog 68 [.lit (.pointer none)] := .of (z := (.pointer none)) (by kernel_rfl) (.cons (zL_ rfl) .nil)
instance : X8 Tryz.prog 71 3 := .of Tryz.underlying71 (by kernel_rfl)
instance : Um Tryz.prog 71 [2, 1] := .of (z := (.agg #[.slice none 0 0, .slice none 0 0, .slice none 0 0])) Tryz.underlying71 (by kernel_rfl) (by kernel_rfl) rfl
instance : Xw Tryz.prog 71 0 0 := .of (ft := 27) (s := 1) Tryz.underlying71 rfl (by kernel_rfl)
instance : Xw Tryz.prog 71 1 2 := .of (ft := 25) (s := 0) Tryz.underlying71 rfl (by kernel_rfl)
instance : Xv Tryz.prog 71 [.sl true 1 [], .sl true 1 [], .sl true 1 []] := .of (z := (.agg #[.slice none 0 0, .slice none 0 0, .slice none 0 0])) (by kernel_rfl) (.cons (Xt) (.cons (Xt) (.cons (Xt) .nil)))
instance : X6 Tryz.prog 116 := .of Tryz.underlying116 rfl (by kernel_rfl)
instance : Xv Tryz.prog 116 [.lit (.int .u64 0)] := .of (z := (.int .u64 0)) (by kernel_rfl) (.cons (zL_ rfl) .nil)
instance : J0 Tryz.prog 116 .u64 := ⟨Tryz.underlying116⟩
instance : X8 Tryz.prog 121 3 := .of Tryz.underlying121 (by kernel_rfl)
instance : Um Tryz.prog 121 [1, 1, 1] := .of (z := (.agg #[.slice none 0 0, .int .i64 0, .int .u64 0])) Tryz.underlying121 (by kernel_rfl) (by kernel_rfl) rfl
instance : Xw Tryz.prog 121 0 0 := .of (ft := 22) (s := 0) Tryz.underlying121 rfl (by kernel_rfl)
instance : Xw Tryz.prog 121 1 1 := .of (ft := 3) (s := 0) Tryz.underlying121 rfl (by kernel_rfl)
instance : Xw Tryz.prog 121 2 2 := .of (ft := 63) (s := 0) Tryz.underlying121 rfl (by kernel_rfl)
instance : Xv Tryz.prog 121 [.sl true 1 [], .lit (.int .i64 0), .lit (.int .u64 0)] := .of (z := (.agg #[.slice none 0 0, .int .i64 0, .int .u64 0])) (by kernel_rfl) (.cons (Xt) (.cons (zL_ rfl) (.cons (zL_ rfl) .nil)))
instance : X6 Tryz.prog 123 := .of Tryz.underlying123 rfl (by kernel_rfl)
instance : Xv Tryz.prog 123 [.sl true 1 []] := .of (z := (.slice none 0 0)) (by kernel_rfl) (.cons (Xt) .nil)
instance : Zu Tryz.prog 123 1 := .of (z := (.bool false)) (bytes := 1) Tryz.underlying123 (by kernel_rfl) rfl
instance : Wu Tryz.prog 123 (.lit (.bool false)) := .of (z := (.bool false)) (bytes := 1) Tryz.underlying123 (by kernel_rfl) (by decide) rfl (zL_ rfl)
instance : X6 Tryz.prog 131 := .of Tryz.underlying131 rfl (by kernel_rfl)
instance : Xv Tryz.prog 131 [.lit .nilFunc] := .of (z := (.nilFunc)) (by kernel_rfl) (.cons (zL_ rfl) .nil)
instance : X6 Tryz.prog 154 := .of Tryz.underlying154 rfl (by kernel_rfl)
instance : Xv Tryz.prog 154 [.lit .nilFunc] := .of (z := (.nilFunc)) (by kernel_rfl) (.cons (zL_ rfl) .nil)
instance : X8 Tryz.prog 157 6 := .of Tryz.underlying157 (by kernel_rfl)
instance : Um Tryz.prog 157 [1, 1, 1, 1, 1, 1] := .of (z := (.agg #[.slice none 0 0, .slice none 0 0, .slice none 0 0, .slice none 0 0, .slice none 0 0, .bool false])) Tryz.underlying157 (by kernel_rfl) (by kernel_rfl) rfl
instance : Xw Tryz.prog 157 0 0 := .of (ft := 24) (s := 0) Tryz.underlying157 rfl (by kernel_rfl)
instance : Xw Tryz.prog 157 1 1 := .of (ft := 25) (s := 0) Tryz.underlying157 rfl (by kernel_rfl)
instance : Xw Tryz.prog 157 2 2 := .of (ft := 24) (s := 0) Tryz.underlying157 rfl (by kernel_rfl)
instance : Xw Tryz.prog 157 3 3 := .of (ft := 24) (s := 0) Tryz.underlying157 rfl (by kernel_rfl)
instance : Xw Tryz.prog 157 4 4 := .of (ft := 123) (s := 0) Tryz.underlying157 rfl (by kernel_rfl)
instance : Xw Tryz.prog 157 5 5 := .of (ft := 4) (s := 0) Tryz.underlying157 rfl (by kernel_rfl)
instance : Xv Tryz.prog 157 [.sl true 1 [], .sl true 1 [], .sl true 1 [], .sl true 1 [], .sl true 1 [], .lit (.bool false)] := .of (z := (.agg #[.slice none 0 0, .slice none 0 0, .slice none 0 0, .slice none 0 0, .slice none 0 0, .bool false])) (by kernel_rfl) (.cons (Xt) (.cons (Xt) (.cons (Xt) (.cons (Xt) (.cons (Xt) (.cons (zL_ rfl) .nil))))))
instance : X8 Tryz.prog 163 1 := .of Tryz.underlying163 (by kernel_rfl)
instance : Um Tryz.prog 163 [1] := .of (z := (.agg #[.slice none 0 0])) Tryz.underlying163 (by kernel_rfl) (by kernel_rfl) rfl
instance : Xw Tryz.prog 163 0 0 := .of (ft := 24) (s := 0) Tryz.underlying163 rfl (by kernel_rfl)
instance : Xv Tryz.prog 163 [.sl true 1 []] := .of (z := (.agg #[.slice none 0 0])) (by kernel_rfl) (.cons (Xt) .nil)
instance : X6 Tryz.prog 169 := .of Tryz.underlying169 rfl (by kernel_rfl)
instance : Xv Tryz.prog 169 [.lit (.int .u32 0)] := .of (z := (.int .u32 0)) (by kernel_rfl) (.cons (zL_ rfl) .nil)
instance : J0 Tryz.prog 169 .u32 := ⟨Tryz.underlying169⟩
instance : X6 Tryz.prog 174 := .of Tryz.underlying174 rfl (by kernel_rfl)
instance : Xv Tryz.prog 174 [.lit (.pointer none)] := .of (z := (.pointer none)) (by kernel_rfl) (.cons (zL_ rfl) .nil)
instance : X6 Tryz.prog 177 := .of Tryz.underlying177 rfl (by kernel_rfl)
instance : Xv Tryz.prog 177 [.lit (.int .i64 0)] := .of (z := (.int .i64 0)) (by kernel_rfl) (.cons (zL_ rfl) .nil)
instance : J0 Tryz.prog 177 .i64 := ⟨Tryz.underlying177⟩
instance : X6 Tryz.prog 190 := .of Tryz.underlying190 rfl (by kernel_rfl)
instance : Xv Tryz.prog 190 [.lit (.int .u64 0)] := .of (z := (.int .u64 0)) (by kernel_rfl) (.cons (zL_ rfl) .nil)
instance : J0 Tryz.prog 190 .u64 := ⟨Tryz.underlying190⟩
instance : X6 Tryz.prog 194 := .of Tryz.underlying194 rfl (by kernel_rfl)
instance : Xv Tryz.prog 194 [.lit (.pointer none)] := .of (z := (.pointer none)) (by kernel_rfl) (.cons (zL_ rfl) .nil)
instance : X6 Tryz.prog 205 := .of Tryz.underlying205 rfl (by kernel_rfl)
instance : Xv Tryz.prog 205 [.lit (.pointer none)] := .of (z := (.pointer none)) (by kernel_rfl) (.cons (zL_ rfl) .nil)
end Go.Proofs.YtmgmpnhlehonmaaGreat
