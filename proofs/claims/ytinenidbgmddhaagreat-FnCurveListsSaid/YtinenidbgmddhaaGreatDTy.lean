/- Contracts of the functions on lists of lists of numbers: copying, comparing, marking, and the lists of codes. No condition. -/
import Derived.Test.YtinenidbgmddhaaGreatDPvS
import Derived.Test.YtinenidbgmddhaaGreatProg
set_option linter.unusedVariables false
set_option linter.unusedSimpArgs false
namespace Go.Proofs.YtinenidbgmddhaaGreat
open Go.Pv
instance:Zs3 Tryz.prog:=⟨by kernel_rfl⟩
instance:X4 Tryz.prog 2:=.of Tryz.underlying2 rfl (by kernel_rfl)
instance:Xo Tryz.prog 2 [.lit (.int .i64 0)]:=.of (z:=(.int .i64 0)) (by kernel_rfl) (.cons (zL_ rfl) .nil)
instance:Qa Tryz.prog 2 .i64:=⟨Tryz.underlying2⟩
instance:X4 Tryz.prog 3:=.of Tryz.underlying3 rfl (by kernel_rfl)
instance:Xo Tryz.prog 3 [.lit (.int .i64 0)]:=.of (z:=(.int .i64 0)) (by kernel_rfl) (.cons (zL_ rfl) .nil)
instance:Qa Tryz.prog 3 .i64:=⟨Tryz.underlying3⟩
instance:X4 Tryz.prog 4:=.of Tryz.underlying4 rfl (by kernel_rfl)
instance:Xo Tryz.prog 4 [.lit (.bool false)]:=.of (z:=(.bool false)) (by kernel_rfl) (.cons (zL_ rfl) .nil)
instance:X4 Tryz.prog 5:=.of Tryz.underlying5 rfl (by kernel_rfl)
instance:Xo Tryz.prog 5 [.lit (.int .u8 0)]:=.of (z:=(.int .u8 0)) (by kernel_rfl) (.cons (zL_ rfl) .nil)
instance:Qa Tryz.prog 5 .u8:=⟨Tryz.underlying5⟩
instance:X4 Tryz.prog 9:=.of Tryz.underlying9 rfl (by kernel_rfl)
instance:Xo Tryz.prog 9 [.lit (.string ⟨#[]⟩)]:=.of (z:=(.string ⟨#[]⟩)) (by kernel_rfl) (.cons (zL_ rfl) .nil)
instance:X4 Tryz.prog 25:=.of Tryz.underlying25 rfl (by kernel_rfl)
instance:Xo Tryz.prog 25 [.sl true 2 []]:=.of (z:=(.slice none 0 0)) (by kernel_rfl) (.cons (X2) .nil)
instance:Zz Tryz.prog 25 2:=.of (z:=(.agg #[.slice none 0 0,.slice none 0 0])) (bytes:=48) Tryz.underlying25 (by kernel_rfl) rfl
instance:X4 Tryz.prog 31:=.of Tryz.underlying31 rfl (by kernel_rfl)
instance:Xo Tryz.prog 31 [.sl true 1 []]:=.of (z:=(.slice none 0 0)) (by kernel_rfl) (.cons (X2) .nil)
instance:Zz Tryz.prog 31 1:=.of (z:=(.slice none 0 0)) (bytes:=24) Tryz.underlying31 (by kernel_rfl) rfl
instance:Kj Tryz.prog 31 (.sl true 1 []):=.of (z:=(.slice none 0 0)) (bytes:=24) Tryz.underlying31 (by kernel_rfl) (by decide) rfl (X2)
instance:X4 Tryz.prog 36:=.of Tryz.underlying36 rfl (by kernel_rfl)
instance:Xo Tryz.prog 36 [.sl true 1 []]:=.of (z:=(.slice none 0 0)) (by kernel_rfl) (.cons (X2) .nil)
instance:Zz Tryz.prog 36 1:=.of (z:=(.agg #[.slice none 0 0])) (bytes:=24) Tryz.underlying36 (by kernel_rfl) rfl
instance:X1 Tryz.prog 38 2:=.of Tryz.underlying38 (by kernel_rfl)
instance:Uu Tryz.prog 38 [1,1]:=.of (z:=(.agg #[.slice none 0 0,.slice none 0 0])) Tryz.underlying38 (by kernel_rfl) (by kernel_rfl) rfl
instance:Vg Tryz.prog 38 0 0:=.of (ft:=36) (s:=0) Tryz.underlying38 rfl (by kernel_rfl)
instance:Vg Tryz.prog 38 1 1:=.of (ft:=31) (s:=0) Tryz.underlying38 rfl (by kernel_rfl)
instance:Xo Tryz.prog 38 [.sl true 1 [],.sl true 1 []]:=.of (z:=(.agg #[.slice none 0 0,.slice none 0 0])) (by kernel_rfl) (.cons (X2) (.cons (X2) .nil))
instance:X4 Tryz.prog 42:=.of Tryz.underlying42 rfl (by kernel_rfl)
instance:Xo Tryz.prog 42 [.sl true 1 []]:=.of (z:=(.slice none 0 0)) (by kernel_rfl) (.cons (X2) .nil)
instance:Zz Tryz.prog 42 1:=.of (z:=(.int .u8 0)) (bytes:=1) Tryz.underlying42 (by kernel_rfl) rfl
instance:Kj Tryz.prog 42 (.lit (.int .u8 0)):=.of (z:=(.int .u8 0)) (bytes:=1) Tryz.underlying42 (by kernel_rfl) (by decide) rfl (zL_ rfl)
instance:X4 Tryz.prog 53:=.of Tryz.underlying53 rfl (by kernel_rfl)
instance:Xo Tryz.prog 53 [.lit .nilFunc]:=.of (z:=(.nilFunc)) (by kernel_rfl) (.cons (zL_ rfl) .nil)
instance:X4 Tryz.prog 55:=.of Tryz.underlying55 rfl (by kernel_rfl)
instance:Xo Tryz.prog 55 [.sl true 1 []]:=.of (z:=(.slice none 0 0)) (by kernel_rfl) (.cons (X2) .nil)
instance:Zz Tryz.prog 55 1:=.of (z:=(.int .i64 0)) (bytes:=8) Tryz.underlying55 (by kernel_rfl) rfl
instance:Kj Tryz.prog 55 (.lit (.int .i64 0)):=.of (z:=(.int .i64 0)) (bytes:=8) Tryz.underlying55 (by kernel_rfl) (by decide) rfl (zL_ rfl)
instance:X4 Tryz.prog 65:=.of Tryz.underlying65 rfl (by kernel_rfl)
instance:Xo Tryz.prog 65 [.lit (.pointer none)]:=.of (z:=(.pointer none)) (by kernel_rfl) (.cons (zL_ rfl) .nil)
instance:X1 Tryz.prog 76 3:=.of Tryz.underlying76 (by kernel_rfl)
instance:Uu Tryz.prog 76 [1,1,1]:=.of (z:=(.agg #[.int .i64 0,.slice none 0 0,.slice none 0 0])) Tryz.underlying76 (by kernel_rfl) (by kernel_rfl) rfl
instance:Vg Tryz.prog 76 0 0:=.of (ft:=2) (s:=0) Tryz.underlying76 rfl (by kernel_rfl)
instance:Vg Tryz.prog 76 1 1:=.of (ft:=36) (s:=0) Tryz.underlying76 rfl (by kernel_rfl)
instance:Vg Tryz.prog 76 2 2:=.of (ft:=25) (s:=0) Tryz.underlying76 rfl (by kernel_rfl)
instance:Xo Tryz.prog 76 [.lit (.int .i64 0),.sl true 1 [],.sl true 2 []]:=.of (z:=(.agg #[.int .i64 0,.slice none 0 0,.slice none 0 0])) (by kernel_rfl) (.cons (zL_ rfl) (.cons (X2) (.cons (X2) .nil)))
instance:X1 Tryz.prog 79 1:=.of Tryz.underlying79 (by kernel_rfl)
instance:Uu Tryz.prog 79 [1]:=.of (z:=(.agg #[.slice none 0 0])) Tryz.underlying79 (by kernel_rfl) (by kernel_rfl) rfl
instance:Vg Tryz.prog 79 0 0:=.of (ft:=55) (s:=0) Tryz.underlying79 rfl (by kernel_rfl)
instance:Xo Tryz.prog 79 [.sl true 1 []]:=.of (z:=(.agg #[.slice none 0 0])) (by kernel_rfl) (.cons (X2) .nil)
instance:X4 Tryz.prog 82:=.of Tryz.underlying82 rfl (by kernel_rfl)
instance:Xo Tryz.prog 82 [.lit .nilFunc]:=.of (z:=(.nilFunc)) (by kernel_rfl) (.cons (zL_ rfl) .nil)
instance:X4 Tryz.prog 87:=.of Tryz.underlying87 rfl (by kernel_rfl)
instance:Xo Tryz.prog 87 [.lit .nilFunc]:=.of (z:=(.nilFunc)) (by kernel_rfl) (.cons (zL_ rfl) .nil)
instance:X4 Tryz.prog 91:=.of Tryz.underlying91 rfl (by kernel_rfl)
instance:Xo Tryz.prog 91 [.lit .nilFunc]:=.of (z:=(.nilFunc)) (by kernel_rfl) (.cons (zL_ rfl) .nil)
instance:X4 Tryz.prog 102:=.of Tryz.underlying102 rfl (by kernel_rfl)
instance:Xo Tryz.prog 102 [.lit (.int .u64 0)]:=.of (z:=(.int .u64 0)) (by kernel_rfl) (.cons (zL_ rfl) .nil)
instance:Qa Tryz.prog 102 .u64:=⟨Tryz.underlying102⟩
instance:X1 Tryz.prog 104 3:=.of Tryz.underlying104 (by kernel_rfl)
instance:Uu Tryz.prog 104 [1,1,1]:=.of (z:=(.agg #[.slice none 0 0,.int .i64 0,.int .u64 0])) Tryz.underlying104 (by kernel_rfl) (by kernel_rfl) rfl
instance:Vg Tryz.prog 104 0 0:=.of (ft:=42) (s:=0) Tryz.underlying104 rfl (by kernel_rfl)
instance:Vg Tryz.prog 104 1 1:=.of (ft:=3) (s:=0) Tryz.underlying104 rfl (by kernel_rfl)
instance:Vg Tryz.prog 104 2 2:=.of (ft:=102) (s:=0) Tryz.underlying104 rfl (by kernel_rfl)
instance:Xo Tryz.prog 104 [.sl true 1 [],.lit (.int .i64 0),.lit (.int .u64 0)]:=.of (z:=(.agg #[.slice none 0 0,.int .i64 0,.int .u64 0])) (by kernel_rfl) (.cons (X2) (.cons (zL_ rfl) (.cons (zL_ rfl) .nil)))
instance:X4 Tryz.prog 105:=.of Tryz.underlying105 rfl (by kernel_rfl)
instance:Xo Tryz.prog 105 [.lit (.int .u64 0)]:=.of (z:=(.int .u64 0)) (by kernel_rfl) (.cons (zL_ rfl) .nil)
instance:Qa Tryz.prog 105 .u64:=⟨Tryz.underlying105⟩
instance:X4 Tryz.prog 115:=.of Tryz.underlying115 rfl (by kernel_rfl)
instance:Xo Tryz.prog 115 [.lit (.pointer none)]:=.of (z:=(.pointer none)) (by kernel_rfl) (.cons (zL_ rfl) .nil)
instance:X4 Tryz.prog 120:=.of Tryz.underlying120 rfl (by kernel_rfl)
instance:Xo Tryz.prog 120 [.sl true 1 []]:=.of (z:=(.slice none 0 0)) (by kernel_rfl) (.cons (X2) .nil)
instance:Zz Tryz.prog 120 1:=.of (z:=(.int .i64 0)) (bytes:=8) Tryz.underlying120 (by kernel_rfl) rfl
instance:Kj Tryz.prog 120 (.lit (.int .i64 0)):=.of (z:=(.int .i64 0)) (bytes:=8) Tryz.underlying120 (by kernel_rfl) (by decide) rfl (zL_ rfl)
instance:X1 Tryz.prog 133 3:=.of Tryz.underlying133 (by kernel_rfl)
instance:Uu Tryz.prog 133 [1,1,1]:=.of (z:=(.agg #[.slice none 0 0,.slice none 0 0,.slice none 0 0])) Tryz.underlying133 (by kernel_rfl) (by kernel_rfl) rfl
instance:Vg Tryz.prog 133 0 0:=.of (ft:=55) (s:=0) Tryz.underlying133 rfl (by kernel_rfl)
instance:Vg Tryz.prog 133 1 1:=.of (ft:=55) (s:=0) Tryz.underlying133 rfl (by kernel_rfl)
instance:Vg Tryz.prog 133 2 2:=.of (ft:=55) (s:=0) Tryz.underlying133 rfl (by kernel_rfl)
instance:Xo Tryz.prog 133 [.sl true 1 [],.sl true 1 [],.sl true 1 []]:=.of (z:=(.agg #[.slice none 0 0,.slice none 0 0,.slice none 0 0])) (by kernel_rfl) (.cons (X2) (.cons (X2) (.cons (X2) .nil)))
instance:X4 Tryz.prog 143:=.of Tryz.underlying143 rfl (by kernel_rfl)
instance:Xo Tryz.prog 143 [.lit (.int .i64 0)]:=.of (z:=(.int .i64 0)) (by kernel_rfl) (.cons (zL_ rfl) .nil)
instance:Qa Tryz.prog 143 .i64:=⟨Tryz.underlying143⟩
instance:X4 Tryz.prog 151:=.of Tryz.underlying151 rfl (by kernel_rfl)
instance:Xo Tryz.prog 151 [.lit (.int .u32 0)]:=.of (z:=(.int .u32 0)) (by kernel_rfl) (.cons (zL_ rfl) .nil)
instance:Qa Tryz.prog 151 .u32:=⟨Tryz.underlying151⟩
instance:X4 Tryz.prog 170:=.of Tryz.underlying170 rfl (by kernel_rfl)
instance:Xo Tryz.prog 170 [.lit (.int .u64 0)]:=.of (z:=(.int .u64 0)) (by kernel_rfl) (.cons (zL_ rfl) .nil)
instance:Qa Tryz.prog 170 .u64:=⟨Tryz.underlying170⟩
instance:X4 Tryz.prog 174:=.of Tryz.underlying174 rfl (by kernel_rfl)
instance:Xo Tryz.prog 174 [.lit (.pointer none)]:=.of (z:=(.pointer none)) (by kernel_rfl) (.cons (zL_ rfl) .nil)
instance:X4 Tryz.prog 184:=.of Tryz.underlying184 rfl (by kernel_rfl)
instance:Xo Tryz.prog 184 [.lit (.pointer none)]:=.of (z:=(.pointer none)) (by kernel_rfl) (.cons (zL_ rfl) .nil)
end Go.Proofs.YtinenidbgmddhaaGreat
namespace Go.Proofs.YtinenidbgmddhaaGreat
set_option maxHeartbeats 20000000
open Go.Pv
open Go.ChangeShapes Go.WideShapes Go.ChangeAt Go.RowKit
attribute [local irreducible] Za WpA Zk Z3 Zv Zb Zh
instance fnOk28:Zp Tryz.prog 28:=⟨_,Tryz.func28,rfl,by decide⟩
instance fnOk26:Zp Tryz.prog 26:=⟨_,Tryz.func26,rfl,by decide⟩
instance fnOk124:Zp Tryz.prog 124:=⟨_,Tryz.func124,rfl,by decide⟩
instance fnOk145:Zp Tryz.prog 145:=⟨_,Tryz.func145,rfl,by decide⟩
abbrev aI (x:Int):Arg:=.sh (.one (.lit (.int .i64 x)))
abbrev rI (x:Int):V:=.one (.lit (.int .i64 x))
abbrev rB (x:Bool):V:=.one (.lit (.bool x))
abbrev aL (l:List Int):Arg:=.sh (.one (.sl false 1 (Zi l)))
abbrev rL (l:List Int):V:=.one (.sl true 1 (Zi l))
theorem Up (x lo hi:Int):Zg Tryz.prog 28 [aI x,aI lo,aI hi] [rB (decide (lo<=x /\ x<=hi))] []:=by
 refine cA_ _ Tryz.func28 rfl Tryz.ntmps28 sO_ ?_
 repeat' (first|(refine w2_ ?_ ?_<;>intro _)|refine goA ?_|(guard_target =~ IsG; first|refine psA ?_|refine gdA ?_)|refine nxA ?_|refine Zb.ret (.one rA_ .nil) (.sh (.sh (.sh .nil))) ?_ rfl)
 all_goals simp [*]
theorem V7 (x lo hi:Int):Zg Tryz.prog 26 [aI x,aI lo,aI hi] [rB (decide (lo<=x /\ x<=hi))] []:=by
 refine cA_ _ Tryz.func26 rfl Tryz.ntmps26 sO_ ?_
 repeat' (first|(refine w2_ ?_ ?_<;>intro _)|refine goA ?_|(guard_target =~ IsG; first|refine psA ?_|refine gdA ?_)|refine nxA ?_|refine Zb.ret (.one rA_ .nil) (.sh (.sh (.sh .nil))) ?_ rfl)
 all_goals simp [*]
theorem Zpq (x:Int):Zg Tryz.prog 145 [aI x] [rB false] []:=by
 refine cA_ _ Tryz.func145 rfl Tryz.ntmps145 sO_ ?_
 repeat' (first|(refine w2_ ?_ ?_<;>intro _)|refine goA ?_|refine nxA ?_|refine Zb.ret (.one rA_ .nil) (.sh .nil) ?_ rfl)
 simp
def Xf (l:List Int) (lo hi:Int):Prop:=∀ i,i < l.length->lo<=l.getD i 0 /\ l.getD i 0<=hi
instance decWithin (l:List Int) (lo hi:Int):Decidable (Xf l lo hi):=by unfold Xf; infer_instance
theorem Zbn (l:List Int) (lo hi:Int) (hl:l.length<=9223372036854775807):Zg Tryz.prog 124 [aL l,aI lo,aI hi] [rB (decide (Xf l lo hi))] []:=by
 refine cA_ _ Tryz.func124 rfl Tryz.ntmps124 sO_ ?_
 repeat' (first|(refine w2_ ?_ ?_<;>intro _)|refine goA ?_|refine nxA ?_|refine Zb.ret (.one rA_ .nil) (.sh (.sh (.sh .nil))) ?_ rfl)
 refine WpA.loop_slots (ι:=Nat) (λj=>[(9,.c (.sl false 1 (Zi l))),(10,.c (.lit (.int .i64 l.length))),(1,.c (.lit (.int .i64 lo))),(2,.c (.lit (.int .i64 hi))),(11,.c (.lit (.int .i64 (j:Int))))]) (λj=>j<=l.length /\ ∀ i,i < j->lo<=l.getD i 0 /\ l.getD i 0<=hi) (λj=>l.length - j) 0 (by simp) ⟨j7,j7,j7,j7,j7,trivial⟩ ?_
 intro j s nx hj
 repeat' (first|(refine w2_ ?_ ?_<;>intro _)|(guard_target =~ Zd; first|refine Za.cons (sC_ (Up _ _ _) (.sh (.sh (.sh .nil))) (.sh wS_ (.sh wS_ (.sh wS_ .nil))) rfl) ?_)|refine goA ?_|refine nxA ?_|refine Zb.ret (.one rA_ .nil) (.sh (.sh (.sh .nil))) ?_ rfl)
 case refine_1.refine_1 h3 h4 =>
  have:¬ Xf l lo hi:=λhw=>h4 (by simpa using hw j j2)
  simp [this]
 case refine_1.refine_2 h3 h4 =>
  refine ⟨j+1,⟨by omega,λi hi=>?_⟩,⟨rfl,rfl,rfl,rfl,Zc j2,trivial⟩,by omega⟩
  by_cases e:i=j
  ·subst e; simpa using h4
  ·exact hj.2 i j2
 case refine_2 h3 =>
  have:Xf l lo hi:=λi hi=>hj.2 i j2
  simp [this]
instance fnOk84:Zp Tryz.prog 84:=⟨_,Tryz.func84,rfl,by decide⟩
instance fnOk143:Zp Tryz.prog 143:=⟨_,Tryz.func143,rfl,by decide⟩
abbrev aLL (L:List (List Int)):Arg:=.sh (.one (.sl false 1 (LLs L)))
abbrev rLL (L:List (List Int)):V:=.one (.sl true 1 (LL L))
abbrev mLL (L:List (List Int)):Arg:=.mv (.one (.sl true 1 (LL L)))
theorem V1 (l:List Int) (h:l.length<=1099511627000):Zg Tryz.prog 84 [aL l] [rL l] []:=by
 refine cA_ _ Tryz.func84 rfl Tryz.ntmps84 sO_ ?_
 repeat' (first|(refine w2_ ?_ ?_<;>intro _)|refine goA ?_|refine nxA ?_|refine Zb.ret (.one rA_ .nil) (.sh .nil) ?_ rfl)
 simp
theorem Zer (l:List Int) (h:l.length<=1099511627000):Zg Tryz.prog 143 [aL l] [rL l] []:=by
 refine cA_ _ Tryz.func143 rfl Tryz.ntmps143 sO_ ?_
 repeat' (first|(refine w2_ ?_ ?_<;>intro _)|refine goA ?_|refine nxA ?_|refine Zb.ret (.one rA_ .nil) (.sh .nil) ?_ rfl)
 refine Za.eql_nil (by exact .sh rfl) rfl λb hb=>?_
 repeat' (first|(refine w2_ ?_ ?_<;>intro _)|refine goA ?_|refine nxA ?_|refine Zb.ret (.one rA_ .nil) (.sh .nil) ?_ rfl)
 all_goals first|simp; done|simp_all
theorem Zil:∀ {a b:List (List Int)},a.length=b.length->(∀ i,i < a.length->a.getD i []=b.getD i [])->a=b
 | [],[],_,_=>rfl
 | [],_ :: _,h,_=>by simp at h
 | _ :: _,[],h,_=>by simp at h
 | x :: a,y :: b,h,e=>by
  have h0:x=y:=by simpa using e 0 (by simp)
  rw [h0,Zil (a:=a) (b:=b) v8 λi hi=>by simpa using e (i+1) (by simpa using hi)]
end Go.Proofs.YtinenidbgmddhaaGreat
