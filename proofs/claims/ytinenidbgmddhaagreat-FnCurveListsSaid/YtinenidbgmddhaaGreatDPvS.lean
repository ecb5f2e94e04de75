/- The step of any operation but a call of a Go function: how it is found. No condition. -/
import Derived.Test.YtinenidbgmddhaaGreatDPvZ
import Derived.Test.YtinenidbgmddhaaGreatDPwC
set_option linter.unusedVariables false
set_option linter.unusedSimpArgs false
namespace Go.Pv
open Go.RowKit
section
variable {P:Program} {n:NN} {st:Nat->AV} {nx nid:Nat}
theorem Uo {x:Operand} {rd:List Nat} {ds:List D} {up:List (Nat × AV)} (h:Jj st x rd ds up:=by first|exact .one j6|exact .agg rfl rfl|exact .parts rfl (.cons p8 .nil)|exact .parts rfl (.cons p8 (.cons p8 .nil))|exact .parts rfl (.cons p8 (.cons p8 (.cons p8 .nil)))|exact .parts rfl (.cons p8 (.cons p8 (.cons p8 (.cons p8 .nil))))):Jj st x rd ds up:=h
theorem gO0 {os:List (Option Operand)} {zs:List (List D)} {rd:List Nat} {dss:List (List D)} {up:List (Nat × AV)} (h:Z1 st os zs rd dss up:=by exact Z1.nil):Z1 st os zs rd dss up:=h
theorem gO1 {os:List (Option Operand)} {zs:List (List D)} {rd:List Nat} {dss:List (List D)} {up:List (Nat × AV)} (h:Z1 st os zs rd dss up:=by first|exact Z1.nil|(guard_target =~ Z1 _ (none :: _) _ _ _ _; exact Z1.zero gO0)|exact Z1.given Uo v7 gO0):Z1 st os zs rd dss up:=h
theorem gO2 {os:List (Option Operand)} {zs:List (List D)} {rd:List Nat} {dss:List (List D)} {up:List (Nat × AV)} (h:Z1 st os zs rd dss up:=by first|exact Z1.nil|(guard_target =~ Z1 _ (none :: _) _ _ _ _; exact Z1.zero gO1)|exact Z1.given Uo v7 gO1):Z1 st os zs rd dss up:=h
theorem gO3 {os:List (Option Operand)} {zs:List (List D)} {rd:List Nat} {dss:List (List D)} {up:List (Nat × AV)} (h:Z1 st os zs rd dss up:=by first|exact Z1.nil|(guard_target =~ Z1 _ (none :: _) _ _ _ _; exact Z1.zero gO2)|exact Z1.given Uo v7 gO2):Z1 st os zs rd dss up:=h
theorem gO4 {os:List (Option Operand)} {zs:List (List D)} {rd:List Nat} {dss:List (List D)} {up:List (Nat × AV)} (h:Z1 st os zs rd dss up:=by first|exact Z1.nil|(guard_target =~ Z1 _ (none :: _) _ _ _ _; exact Z1.zero gO3)|exact Z1.given Uo v7 gO3):Z1 st os zs rd dss up:=h
theorem gO5 {os:List (Option Operand)} {zs:List (List D)} {rd:List Nat} {dss:List (List D)} {up:List (Nat × AV)} (h:Z1 st os zs rd dss up:=by first|exact Z1.nil|(guard_target =~ Z1 _ (none :: _) _ _ _ _; exact Z1.zero gO4)|exact Z1.given Uo v7 gO4):Z1 st os zs rd dss up:=h
theorem gO6 {os:List (Option Operand)} {zs:List (List D)} {rd:List Nat} {dss:List (List D)} {up:List (Nat × AV)} (h:Z1 st os zs rd dss up:=by first|exact Z1.nil|(guard_target =~ Z1 _ (none :: _) _ _ _ _; exact Z1.zero gO5)|exact Z1.given Uo v7 gO5):Z1 st os zs rd dss up:=h
theorem gO7 {os:List (Option Operand)} {zs:List (List D)} {rd:List Nat} {dss:List (List D)} {up:List (Nat × AV)} (h:Z1 st os zs rd dss up:=by first|exact Z1.nil|(guard_target =~ Z1 _ (none :: _) _ _ _ _; exact Z1.zero gO6)|exact Z1.given Uo v7 gO6):Z1 st os zs rd dss up:=h
theorem Ze {o:Oper} {rd:List Nat} {up:List (Nat × AV)} (h:Zk P n o nid st rd up:=by first
  | (guard_target =~ Zk _ _ (Oper.mk _ (Op.move _) _ _ _ _) _ _ _ _; first
   | exact Zd5 rfl rfl
   | exact Zdm rfl rfl
   | exact Zhj rfl rfl
   | exact Zhn rfl rfl
   | exact Zho rfl rfl
   | exact Zjp rfl rfl
   | exact Zfe rfl rfl (by decide)
   )
  | (guard_target =~ Zk _ _ (Oper.mk _ (Op.binOp BinOp.add _ _ _ _) _ _ _ _) _ _ _ _; first
   | exact Zk7 rfl rfl (by unfold Zea; omega) rfl
   )
  | (guard_target =~ Zk _ _ (Oper.mk _ (Op.binOp BinOp.sub _ _ _ _) _ _ _ _) _ _ _ _; first
   | exact Zk8 rfl rfl (by unfold Zea; omega) rfl
   )
  | (guard_target =~ Zk _ _ (Oper.mk _ (Op.binOp BinOp.mul _ _ _ _) _ _ _ _) _ _ _ _; first
   | exact Zk9 rfl rfl (by unfold Zea; omega) rfl
   )
  | (guard_target =~ Zk _ _ (Oper.mk _ (Op.binOp BinOp.quo _ _ _ _) _ _ _ _) _ _ _ _; first
   | exact Zla rfl rfl j2 j2 j2 rfl
   )
  | (guard_target =~ Zk _ _ (Oper.mk _ (Op.binOp BinOp.rem _ _ _ _) _ _ _ _) _ _ _ _; first
   | exact Zlb rfl rfl j2 j2 rfl
   )
  | (guard_target =~ Zk _ _ (Oper.mk _ (Op.assign _) _ _ _ _) _ _ _ _; first
   | exact Zef rfl
   | exact Zno rfl rfl
   | exact Zhi rfl rfl
   | exact Zd6 rfl rfl (by decide)
   | exact Zed rfl rfl
   | exact Zee rfl rfl
   | exact Qs j6 rfl
   )
  | (guard_target =~ Zk _ _ (Oper.mk _ (Op.call ⟨Callee.builtin Builtin.len,_,_⟩) _ _ _ _) _ _ _ _; first
   | exact Zjv u6 rfl
   | exact Z6 u6 _ (Nat.mul_one _).symm (by decide) rfl
   )
  | (guard_target =~ Zk _ _ (Oper.mk _ (Op.call ⟨Callee.builtin Builtin.append,_,_⟩) _ _ _ _) _ _ _ _; first
   | exact Zeh j6 v7 j0 rfl
   | exact Zcv j6 (by exact .root rfl) j0 rfl
   | exact H8 j6 v7 j0 rfl
   | exact W3 j6 j6 j0 rfl
   | exact Ul j6 u6 j0 rfl
   | exact Kt j6 u9 u6 u9 j0 rfl
   | exact Zat j6 (by first|exact .raw|exact .nil) j6 u9 j0 rfl
   )
  | (guard_target =~ Zk _ _ (Oper.mk _ (Op.call ⟨Callee.builtin Builtin.min,_,_⟩) _ _ _ _) _ _ _ _; first
   | exact Yq rfl rfl rfl
   )
  | (guard_target =~ Zk _ _ (Oper.mk _ (Op.call ⟨Callee.builtin Builtin.max,_,_⟩) _ _ _ _) _ _ _ _; first
   | exact Ztb rfl rfl rfl
   )
  | (guard_target =~ Zk _ _ (Oper.mk _ (Op.binOp _ _ _ _ _) _ _ _ _) _ _ _ _; first
   | exact Zss rfl rfl rfl
   | exact Zst rfl rfl rfl
   | exact Zsu rfl rfl rfl
   | exact Zsv rfl rfl rfl
   | exact Zsw rfl rfl rfl
   | exact Zsx rfl rfl rfl
   )
  | (guard_target =~ Zk _ _ (Oper.mk _ (Op.unOp _ _ _) _ _ _ _) _ _ _ _; first
   | exact Zlc rfl (by unfold Zea; omega) rfl
   | exact Zsz rfl rfl
   )
  | (guard_target =~ Zk _ _ (Oper.mk _ (Op.pick _ _ _) _ _ _ _) _ _ _ _; first
   | exact Zfc rfl rfl rfl rfl
   | exact Zec rfl rfl rfl rfl
   )
  | (guard_target =~ Zk _ _ (Oper.mk _ (Op.extract _ _) _ _ _ _) _ _ _ _; first
   | exact Zas rfl rfl rfl
   | exact Kg rfl rfl rfl rfl
   | exact Kh rfl rfl rfl rfl
   )
  | (guard_target =~ Zk _ _ (Oper.mk _ (Op.convert _ _ _) _ _ _ _) _ _ _ _; first
   | exact Zeb rfl (by unfold Zea; omega) rfl
   )
  | (guard_target =~ Zk _ _ (Oper.mk _ (Op.indexAddr _ _ _) _ _ _ _) _ _ _ _; first
   | exact Ze7 rfl rfl w6 rfl k9 j0 rfl
   | exact Zd7 rfl rfl k9 j0 rfl
   | exact Zhk rfl rfl k9 j0 rfl
   | exact Zcy rfl rfl k9 j2 rfl
   )
  | (guard_target =~ Zk _ _ (Oper.mk _ (Op.fieldAddr _ _ _) _ _ _ _) _ _ _ _; first
   | exact Zd8 rfl rfl
   | exact Znq rfl rfl
   | exact Zhl rfl rfl
   )
  | (guard_target =~ Zk _ _ (Oper.mk _ (Op.load _ _) _ _ _ _) _ _ _ _; first
   | exact Zqx rfl rfl w6 rfl v6 rfl
   | exact Zff rfl rfl
   | exact Wf rfl v6 rfl
   | exact W4 rfl rfl w6 rfl v6 rfl
   | exact Zfp rfl v6 rfl
   | exact Znp rfl rfl rfl rfl w7 (by decide) rfl
   | exact Zeg v7 v7 (by decide) rfl
   | exact Qg rfl w7 rfl
   )
  | (guard_target =~ Zk _ _ (Oper.mk _ (Op.store _ _ _) _ _ _ _) _ _ _ _; first
   | exact Kd rfl rfl rfl rfl rfl rfl rfl
   | exact W2 rfl rfl w6 rfl rfl j0
   | exact Zfs rfl rfl rfl rfl rfl j0
   | exact Vt j1 v7 v7 v7 v7 v7 w7 y7
   | exact Ki j1 v7 v7 w7 y7
   )
  | (guard_target =~ Zk _ _ (Oper.mk _ (Op.box _ _) _ _ _ _) _ _ _ _; first
   | exact Zjq rfl rfl rfl
   | exact Zsn j6 rfl
   )
  | (guard_target =~ Zk _ _ (Oper.mk _ (Op.alloc _) _ _ _ _) _ _ _ _; first
   | exact Znr rfl
   )
  | (guard_target =~ Zk _ _ (Oper.mk _ (Op.makeSlice _ _ _) _ _ _ _) _ _ _ _; first
   | exact Zfk rfl rfl rfl j2 j2 rfl
   | exact Zie rfl rfl k9 k9 j2 rfl
   )
  | (guard_target =~ Zk _ _ (Oper.mk _ (Op.buildSlice _ _ _) _ _ _ _) _ _ _ _; first
   | exact Xk (by first|exact .nil|exact (.cons j6 .nil)|exact (.cons j6 (.cons j6 .nil))|exact (.cons j6 (.cons j6 (.cons j6 .nil)))|exact (.cons j6 (.cons j6 (.cons j6 (.cons j6 .nil))))) v7 (by decide) rfl
   | exact Zfn (by first|exact .nil|exact (.cons j1 .nil)|exact (.cons j1 (.cons j1 .nil))|exact (.cons j1 (.cons j1 (.cons j1 .nil)))) v7 v7 (by decide) (by decide) rfl
   )
  | (guard_target =~ Zk _ _ (Oper.mk _ (Op.build _ _) _ _ _ _) _ _ _ _; first
   | exact Znw (by first|exact .nil|exact (.cons j1 .nil)|exact (.cons j1 (.cons j1 .nil))|exact (.cons j1 (.cons j1 (.cons j1 .nil)))) v7 v7 rfl
   | exact Zei gO7 v7 rfl
   )
  | (guard_target =~ Zk _ _ (Oper.mk _ (Op.slice _ _ _ _ _) _ _ _ _) _ _ _ _; first
   | exact Zhq rfl (by first|exact .no|exact .at_ rfl k9) (by first|exact .no|exact .at_ rfl k9) j0 j0 rfl
   | exact Zfq rfl rfl rfl (by first|exact .no|exact .at_ rfl k9) (by first|exact .no|exact .at_ rfl k9) j0 j0 rfl
   )
  | (guard_target =~ Zk _ _ (Oper.mk _ (Op.nilCheck _) _ _ _ _) _ _ _ _; first
   | exact Zhr u7 rfl
   )
  | (guard_target =~ Zk _ _ (Oper.mk _ (Op.makeFunc _ _ _) _ _ _ _) _ _ _ _; first
   | exact Uv (by first|exact .nil|exact .cons u7 .nil|exact .cons u7 (.cons u7 .nil)|exact .cons u7 (.cons u7 (.cons u7 .nil))) rfl
   )
  ):Zk P n o nid st rd up:=h
theorem wS_ {x:Operand} {rd:List Nat} {v:V} (h:Ji st x rd v:=by first|exact .lit rfl rfl|exact .c rfl|exact .view (Je.cut rfl rfl rfl) j3|exact .view (.als rfl rfl w6) j3|exact .view (.root rfl) j3|exact .view (.sub rfl rfl rfl) j3|exact .view .nil j3|exact .ptr rfl rfl j3|exact .root rfl j3|exact .sptr rfl|exact .func|exact .clo v7 (by first|exact .nil|exact .cons w5 .nil|exact .cons w5 (.cons w5 .nil)|exact .cons w5 (.cons w5 (.cons w5 .nil)))):Ji st x rd v:=h
theorem gA_ {xs:List AV} {rd:List Nat} {ds:List D} (h:Vh st xs rd ds:=by first|exact (.cons p7 .nil)|exact (.cons p7 (.cons p7 .nil))|exact (.cons p7 (.cons p7 (.cons p7 .nil)))|exact (.cons p7 (.cons p7 (.cons p7 (.cons p7 .nil))))|exact (.cons p7 (.cons p7 (.cons p7 (.cons p7 (.cons p7 .nil)))))|exact (.cons p7 (.cons p7 (.cons p7 (.cons p7 (.cons p7 (.cons p7 .nil))))))):Vh st xs rd ds:=h
theorem vA_ {x:Operand} {rd:List Nat} {d:D} {up:List (Nat × AV)} (h:Vr st x rd d up:=by first|exact .lit rfl|exact .nil|exact .own rfl|exact .als rfl rfl|exact .ptr rfl rfl|exact Zlo rfl rfl j0|exact .part rfl rfl rfl|exact .c rfl):Vr st x rd d up:=h
/-- Two goals. -/
structure Two (A B:Prop):Prop where
 l:A
 r:B
theorem w2_ {A B:Prop} (a:A) (b:B):Two A B:=⟨a,b⟩
abbrev IsW {P:Program} {n:NN} {c:Code} {st:Nat->AV} {nx:Nat} {Q:Exit->(Nat->AV)->Nat->Prop}:Prop:=WpA P n c st nx Q
abbrev AtN {dr:Bool} {P:Program} {n:NN} {ops l:List Oper} {st:Nat->AV} {nx:Nat} {pre:List (List Nat × List Nat)} {Q:(Nat->AV)->Nat->Prop} {op:Op} {ty:TypeId} {pos:String} {aft:Array Edge} (k:Nat):Prop:=Za dr P n ops (Oper.mk (some k) op ty pos aft none :: l) st nx pre Q
abbrev AtS {dr:Bool} {P:Program} {n:NN} {ops l:List Oper} {st:Nat->AV} {nx:Nat} {pre:List (List Nat × List Nat)} {Q:(Nat->AV)->Nat->Prop} {op:Op} {ty:TypeId} {pos:String} {aft:Array Edge} {gd:Option (Nat × Bool)} (k:Nat):Prop:=Za dr P n ops (Oper.mk (some k) op ty pos aft gd :: l) st nx pre Q
abbrev Zd {dr:Bool} {P:Program} {n:NN} {ops l:List Oper} {st:Nat->AV} {nx:Nat} {pre:List (List Nat × List Nat)} {Q:(Nat->AV)->Nat->Prop} {d:Option Tmp} {ty:TypeId} {pos:String} {aft:Array Edge} {f:Operand} {a:Array Operand} {b:Array TypeId}:Prop:=Za dr P n ops (Oper.mk d (Op.call ⟨Callee.value f,a,b⟩) ty pos aft none :: l) st nx pre Q
abbrev Z4 {dr:Bool} {P:Program} {n:NN} {ops l:List Oper} {st:Nat->AV} {nx:Nat} {pre:List (List Nat × List Nat)} {Q:(Nat->AV)->Nat->Prop} {d:Option Tmp} {ty:TypeId} {pos:String} {aft:Array Edge} {gd:Option (Nat × Bool)} {f:Operand} {a:Array Operand} {b:Array TypeId}:Prop:=Za dr P n ops (Oper.mk d (Op.call ⟨Callee.value f,a,b⟩) ty pos aft gd :: l) st nx pre Q
abbrev IsG {dr:Bool} {P:Program} {n:NN} {ops l:List Oper} {st:Nat->AV} {nx:Nat} {pre:List (List Nat × List Nat)} {Q:(Nat->AV)->Nat->Prop} {d:Option Tmp} {ty:TypeId} {pos:String} {aft:Array Edge} {op:Op} {g:Nat × Bool}:Prop:=Za dr P n ops (Oper.mk d op ty pos aft (some g) :: l) st nx pre Q
abbrev IsN {dr:Bool} {P:Program} {n:NN} {ops l:List Oper} {st:Nat->AV} {nx:Nat} {pre:List (List Nat × List Nat)} {Q:(Nat->AV)->Nat->Prop} {d:Option Tmp} {ty:TypeId} {pos:String} {aft:Array Edge} {op:Op}:Prop:=Za dr P n ops (Oper.mk d op ty pos aft none :: l) st nx pre Q
theorem goA {A B:Prop} (a:A) (h:A->B:=by first|(guard_target =~ _->WpA _ _ _ _ _ _; first|exact λa=>WpA.seq a|exact λa=>WpA.drawU a|exact λa=>WpA.regionU a|exact λa=>WpA.block a|exact λa=>WpA.ret a|exact λa=>WpA.skip a|exact λa=>WpA.exit a|exact λa=>WpA.cond_true rfl a|exact λa=>WpA.cond_false rfl a|exact λa=>WpA.cond_ntrue rfl a|exact λ(a:Two _ _)=>WpA.cond_dec rfl a.l a.r|exact λ(a:Two _ _)=>WpA.cond_not rfl a.l a.r|exact λ(a:Two _ _)=>WpA.cond rfl a.l a.r)|(guard_target =~ _->Za _ _ _ _ [] _ _ _ _; first|exact λa=>Za.nilL a|exact λa=>Za.nilD (by kernel_rfl) a)|(guard_target =~ _->Za _ _ _ _ (Oper.mk _ _ _ _ _ none :: _) _ _ _ _; exact λa=>Za.cons Ze a)):B:=h a
theorem goH {A B:Prop} (a:A) (h:A->B:=by first|(guard_target =~ _->WpA _ _ _ _ _ _; first|exact λa=>WpA.seq a|exact λa=>WpA.drawU a|exact λa=>WpA.regionU a|exact λa=>WpA.block a|exact λa=>WpA.ret a|exact λa=>WpA.skip a|exact λa=>WpA.exit a|exact λa=>WpA.cond_true rfl a|exact λa=>WpA.cond_false rfl a|exact λa=>WpA.cond_ntrue rfl a|exact λ(a:Two _ _)=>WpA.cond_dec rfl a.l a.r|exact λ(a:Two _ _)=>WpA.cond_not rfl a.l a.r|exact λ(a:Two _ _)=>WpA.cond rfl a.l a.r)|(guard_target =~ _->Za _ _ _ _ (Oper.mk _ _ _ _ _ none :: _) _ _ _ _; exact λa=>Za.cons Ze a)):B:=h a
theorem psA {A B:Prop} (a:A) (h:A->B:=by first|exact λa=>Za.pass rfl rfl rfl rfl a|exact λa=>Za.pass_undef rfl rfl rfl a):B:=h a
theorem gdA {A B:Prop} (a:A) (h:A->B:=by first|exact λa=>Za.doit rfl rfl Ze a|((fail_if_success (refine λ_=>Za.doit (rd:=[]) (up:=[]) rfl rfl ?_ ?_)); first|exact λ(a:Two _ _)=>Za.guard_dec rfl rfl a.l a.r|exact λ(a:Two _ _)=>Za.guard_not rfl rfl a.l a.r|exact λ(a:Two _ _)=>Za.guard rfl rfl a.l a.r)):B:=h a
theorem neA {B:Prop} (a:B) (h:B->B:=by ((fail_if_success (guard_target =~ @Eq _ _ _->_)); (fail_if_success (guard_target =~ @Exists _ _->_)); exact λa=>a)):B:=h a
theorem nxA {A B:Prop} (a:A) (h:A->B:=by first|(guard_target =~ _->Xg _ _ _ _ _; exact λa=>Xg.next a)|(guard_target =~ _->Zm _ _ _ _ _; exact λa=>Zm.next a)):B:=h a
theorem sO_ {A:Prop} (h:A:=by first|exact ⟨rfl,rfl⟩|(simp only [List.all_cons,List.all_nil,V.solid,D.solid,D.solids,Y1,Jm,Qw,Bool.and_self,Bool.and_true,and_self]; done)|simp [V.solid,D.solid,D.solids,Zdo,Y1,Jm,Qw]):A:=h
theorem lcA {A:Prop} (h:A:=by first|exact .lit rfl rfl|exact .c rfl):A:=h
theorem geA {A:Prop} (h:A:=by first|exact .c|exact .part rfl rfl):A:=h
theorem xR_ {A:Prop} (h:A:=by exact rfl):A:=h
theorem rA_ {x:Operand} {rd:List Nat} {d:D} {up:List (Nat × AV)} {st:Nat->AV} (h:Vr st x rd d up:=by first|exact .c rfl|exact .own rfl|exact .als rfl rfl|exact .ptr rfl rfl|exact .part rfl rfl rfl):Vr st x rd d up:=h
end
end Go.Pv
