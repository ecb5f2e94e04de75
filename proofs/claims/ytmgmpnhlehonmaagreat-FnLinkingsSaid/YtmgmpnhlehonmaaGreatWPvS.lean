/- The step of any operation but a call of a Go function: how it is found. No condition. -/
import Derived.Test.YtmgmpnhlehonmaaGreatWPvT
import Derived.Test.YtmgmpnhlehonmaaGreatWPwC
set_option linter.unusedVariables false
set_option linter.unusedSimpArgs false
namespace Go.Pv
open Go.RowKit
section
variable {P : Program} {n : NN} {st : Nat -> AV} {nx nid : Nat}
theorem U5 {x : Operand} {rd : List Nat} {ds : List D} {up : List (Nat × AV)} (h : Qg st x rd ds up := by first | exact .one j4 | exact .agg rfl rfl | exact .parts rfl (.cons p8 .nil) | exact .parts rfl (.cons p8 (.cons p8 .nil)) | exact .parts rfl (.cons p8 (.cons p8 (.cons p8 .nil))) | exact .parts rfl (.cons p8 (.cons p8 (.cons p8 (.cons p8 .nil))))) : Qg st x rd ds up := h
theorem gO0 {os : List (Option Operand)} {zs : List (List D)} {rd : List Nat} {dss : List (List D)} {up : List (Nat × AV)} (h : Zt st os zs rd dss up := by exact Zt.nil) : Zt st os zs rd dss up := h
theorem gO1 {os : List (Option Operand)} {zs : List (List D)} {rd : List Nat} {dss : List (List D)} {up : List (Nat × AV)} (h : Zt st os zs rd dss up := by first | exact Zt.nil | (guard_target =~ Zt _ (none :: _) _ _ _ _; exact Zt.zero gO0) | exact Zt.given U5 v7 gO0) : Zt st os zs rd dss up := h
theorem gO2 {os : List (Option Operand)} {zs : List (List D)} {rd : List Nat} {dss : List (List D)} {up : List (Nat × AV)} (h : Zt st os zs rd dss up := by first | exact Zt.nil | (guard_target =~ Zt _ (none :: _) _ _ _ _; exact Zt.zero gO1) | exact Zt.given U5 v7 gO1) : Zt st os zs rd dss up := h
theorem gO3 {os : List (Option Operand)} {zs : List (List D)} {rd : List Nat} {dss : List (List D)} {up : List (Nat × AV)} (h : Zt st os zs rd dss up := by first | exact Zt.nil | (guard_target =~ Zt _ (none :: _) _ _ _ _; exact Zt.zero gO2) | exact Zt.given U5 v7 gO2) : Zt st os zs rd dss up := h
theorem gO4 {os : List (Option Operand)} {zs : List (List D)} {rd : List Nat} {dss : List (List D)} {up : List (Nat × AV)} (h : Zt st os zs rd dss up := by first | exact Zt.nil | (guard_target =~ Zt _ (none :: _) _ _ _ _; exact Zt.zero gO3) | exact Zt.given U5 v7 gO3) : Zt st os zs rd dss up := h
theorem gO5 {os : List (Option Operand)} {zs : List (List D)} {rd : List Nat} {dss : List (List D)} {up : List (Nat × AV)} (h : Zt st os zs rd dss up := by first | exact Zt.nil | (guard_target =~ Zt _ (none :: _) _ _ _ _; exact Zt.zero gO4) | exact Zt.given U5 v7 gO4) : Zt st os zs rd dss up := h
theorem gO6 {os : List (Option Operand)} {zs : List (List D)} {rd : List Nat} {dss : List (List D)} {up : List (Nat × AV)} (h : Zt st os zs rd dss up := by first | exact Zt.nil | (guard_target =~ Zt _ (none :: _) _ _ _ _; exact Zt.zero gO5) | exact Zt.given U5 v7 gO5) : Zt st os zs rd dss up := h
theorem gO7 {os : List (Option Operand)} {zs : List (List D)} {rd : List Nat} {dss : List (List D)} {up : List (Nat × AV)} (h : Zt st os zs rd dss up := by first | exact Zt.nil | (guard_target =~ Zt _ (none :: _) _ _ _ _; exact Zt.zero gO6) | exact Zt.given U5 v7 gO6) : Zt st os zs rd dss up := h
theorem Zc {o : Oper} {rd : List Nat} {up : List (Nat × AV)} (h : Zg P n o nid st rd up := by first
  | (guard_target =~ Zg _ _ (Oper.mk _ (Op.binOp BinOp.eql _ _ (Operand.const (Value.slice none 0 0)) _) _ _ _ _) _ _ _ _; first
   | exact Zfg rfl rfl
   | exact Zk3 k9 (by first | exact List.cons_ne_nil _ _ | assumption) rfl
   )
  | (guard_target =~ Zg _ _ (Oper.mk _ (Op.binOp BinOp.neq _ _ (Operand.const (Value.slice none 0 0)) _) _ _ _ _) _ _ _ _; first
   | exact Zfh rfl rfl
   | exact Zk4 k9 (by first | exact List.cons_ne_nil _ _ | assumption) rfl
   )
  | (guard_target =~ Zg _ _ (Oper.mk _ (Op.move _) _ _ _ _) _ _ _ _; first
   | exact Zeu rfl rfl
   | exact Zef rfl rfl
   | exact Ziv rfl rfl
   | exact Ziy rfl rfl
   | exact Zi0 rfl rfl
   | exact Zgm rfl rfl
   | exact Zkt rfl rfl
   | exact Ziz rfl rfl
   | exact Zgl rfl rfl (by decide)
   )
  | (guard_target =~ Zg _ _ (Oper.mk _ (Op.binOp BinOp.add _ _ _ _) _ _ _ _) _ _ _ _; first
   | exact Zmo rfl rfl (by unfold Zez; omega) rfl
   )
  | (guard_target =~ Zg _ _ (Oper.mk _ (Op.binOp BinOp.sub _ _ _ _) _ _ _ _) _ _ _ _; first
   | exact Zmp rfl rfl (by unfold Zez; omega) rfl
   )
  | (guard_target =~ Zg _ _ (Oper.mk _ (Op.binOp BinOp.mul _ _ _ _) _ _ _ _) _ _ _ _; first
   | exact Zmq rfl rfl (by unfold Zez; omega) rfl
   )
  | (guard_target =~ Zg _ _ (Oper.mk _ (Op.binOp BinOp.quo _ _ _ _) _ _ _ _) _ _ _ _; first
   | exact Zmr rfl rfl j2 j2 j2 rfl
   )
  | (guard_target =~ Zg _ _ (Oper.mk _ (Op.binOp BinOp.rem _ _ _ _) _ _ _ _) _ _ _ _; first
   | exact Zms rfl rfl j2 j2 rfl
   )
  | (guard_target =~ Zg _ _ (Oper.mk _ (Op.assign _) _ _ _ _) _ _ _ _; first
   | exact Ze7 rfl
   | exact Wn rfl rfl
   | exact Ziu rfl rfl
   | exact Zev rfl rfl (by decide)
   | exact Ze3 rfl rfl (by decide)
   | exact Ze5 rfl rfl
   | exact Ze4 rfl rfl
   | exact Ze6 rfl rfl
   | exact Zc7 rfl rfl
   | exact Q7 j4 rfl
   )
  | (guard_target =~ Zg _ _ (Oper.mk _ (Op.call ⟨Callee.builtin Builtin.len, _, _⟩) _ _ _ _) _ _ _ _; first
   | exact Zk0 k9 rfl
   | exact Zmh k9 _ (Nat.mul_one _).symm (by decide) rfl
   )
  | (guard_target =~ Zg _ _ (Oper.mk _ (Op.call ⟨Callee.builtin Builtin.append, _, _⟩) _ _ _ _) _ _ _ _; first
   | exact Zfa j4 v7 j0 rfl
   | exact Zbv j4 j4 j0 rfl
   | exact Zde j4 (by exact .root rfl) j0 rfl
   | exact Zaa j4 v7 j0 rfl
   | exact Ki j4 j4 j0 rfl
   | exact U1 j4 k9 j0 rfl
   | exact Hd j4 u7 k9 u7 j0 rfl
   | exact Za7 j4 (by first | exact .raw | exact .nil) j4 u7 j0 rfl
   )
  | (guard_target =~ Zg _ _ (Oper.mk _ (Op.call ⟨Callee.builtin Builtin.min, _, _⟩) _ _ _ _) _ _ _ _; first
   | exact Yk rfl rfl rfl
   )
  | (guard_target =~ Zg _ _ (Oper.mk _ (Op.call ⟨Callee.builtin Builtin.max, _, _⟩) _ _ _ _) _ _ _ _; first
   | exact Zm7 rfl rfl rfl
   )
  | (guard_target =~ Zg _ _ (Oper.mk _ (Op.binOp _ _ _ _ _) _ _ _ _) _ _ _ _; first
   | exact Ztt rfl rfl rfl
   | exact Ztu rfl rfl rfl
   | exact Zi1 rfl rfl rfl
   | exact Zi2 rfl rfl rfl
   | exact Ztv rfl rfl rfl
   | exact Ztw rfl rfl rfl
   | exact Ztx rfl rfl rfl
   | exact Zty rfl rfl rfl
   )
  | (guard_target =~ Zg _ _ (Oper.mk _ (Op.unOp _ _ _) _ _ _ _) _ _ _ _; first
   | exact Zmt rfl (by unfold Zez; omega) rfl
   | exact Zt0 rfl rfl
   )
  | (guard_target =~ Zg _ _ (Oper.mk _ (Op.pick _ _ _) _ _ _ _) _ _ _ _; first
   | exact Zgi rfl rfl rfl rfl
   | exact Ze1 rfl rfl rfl rfl
   )
  | (guard_target =~ Zg _ _ (Oper.mk _ (Op.extract _ _) _ _ _ _) _ _ _ _; first
   | exact Za2 rfl rfl rfl
   | exact Kv rfl rfl rfl rfl
   | exact Kw rfl rfl rfl rfl
   | exact Zgj rfl rfl rfl
   | exact Zc5 rfl rfl rfl
   | exact Zc6 rfl rfl rfl
   )
  | (guard_target =~ Zg _ _ (Oper.mk _ (Op.convert _ _ _) _ _ _ _) _ _ _ _; first
   | exact Ze0 rfl (by unfold Zez; omega) rfl
   )
  | (guard_target =~ Zg _ _ (Oper.mk _ (Op.indexAddr _ _ _) _ _ _ _) _ _ _ _; first
   | exact Zgf rfl rfl v8 rfl j7 j0 rfl
   | exact Zew rfl rfl j7 j0 rfl
   | exact Ziw rfl rfl j7 j0 rfl
   | exact Zdi rfl rfl j7 j2 rfl
   | exact Zgg rfl rfl rfl rfl j7 j2 rfl
   )
  | (guard_target =~ Zg _ _ (Oper.mk _ (Op.fieldAddr _ _ _) _ _ _ _) _ _ _ _; first
   | exact Zex rfl rfl
   | exact Zoy rfl rfl
   | exact Zix rfl rfl
   )
  | (guard_target =~ Zg _ _ (Oper.mk _ (Op.load _ _) _ _ _ _) _ _ _ _; first
   | exact Q6 rfl rfl v8 rfl u9 rfl
   | exact Zgn rfl rfl
   | exact Wp rfl u9 rfl
   | exact Zfb rfl rfl v8 rfl u9 rfl
   | exact Zgz rfl u9 rfl
   | exact Zox rfl rfl rfl rfl w5 (by decide) rfl
   | exact Ze8 v7 v7 (by decide) rfl
   | exact Zak rfl w5 rfl
   )
  | (guard_target =~ Zg _ _ (Oper.mk _ (Op.store _ _ _) _ _ _ _) _ _ _ _; first
   | exact Qf rfl rfl rfl rfl rfl rfl rfl
   | exact Kh rfl rfl v8 rfl rfl j0
   | exact Zdj rfl rfl v8 rfl rfl j0
   | exact Zg2 rfl rfl rfl rfl rfl j0
   | exact J1 j1 v7 v7 v7 v7 v7 w5 (by exact List.cons_ne_nil _ _)
   | exact Kx j1 v7 v7 w5 (by exact List.cons_ne_nil _ _)
   )
  | (guard_target =~ Zg _ _ (Oper.mk _ (Op.box _ _) _ _ _ _) _ _ _ _; first
   | exact Zku rfl rfl rfl
   | exact Zto j4 rfl
   )
  | (guard_target =~ Zg _ _ (Oper.mk _ (Op.alloc _) _ _ _ _) _ _ _ _; first
   | exact Zoz rfl
   )
  | (guard_target =~ Zg _ _ (Oper.mk _ (Op.makeSlice _ _ _) _ _ _ _) _ _ _ _; first
   | exact Zgs rfl rfl rfl j2 j2 rfl
   | exact Zff rfl rfl rfl j2 j2 rfl
   | exact Zc9 rfl rfl j7 j7 j2 rfl
   )
  | (guard_target =~ Zg _ _ (Oper.mk _ (Op.buildSlice _ _ _) _ _ _ _) _ _ _ _; first
   | exact Xe (by first | exact .nil | exact (.cons j4 .nil) | exact (.cons j4 (.cons j4 .nil)) | exact (.cons j4 (.cons j4 (.cons j4 .nil))) | exact (.cons j4 (.cons j4 (.cons j4 (.cons j4 .nil))))) v7 (by decide) rfl
   | exact Zgx (by first | exact .nil | exact (.cons j1 .nil) | exact (.cons j1 (.cons j1 .nil)) | exact (.cons j1 (.cons j1 (.cons j1 .nil)))) v7 v7 (by decide) (by decide) rfl
   )
  | (guard_target =~ Zg _ _ (Oper.mk _ (Op.build _ _) _ _ _ _) _ _ _ _; first
   | exact Zo9 (by first | exact .nil | exact (.cons j1 .nil) | exact (.cons j1 (.cons j1 .nil)) | exact (.cons j1 (.cons j1 (.cons j1 .nil)))) v7 v7 rfl
   | exact Zfd gO7 v7 rfl
   )
  | (guard_target =~ Zg _ _ (Oper.mk _ (Op.slice _ _ _ _ _) _ _ _ _) _ _ _ _; first
   | exact Zi4 rfl w6 w6 j0 j0 rfl
   | exact Zfc rfl w6 w6 j0 j0 rfl
   | exact Zg0 rfl rfl rfl w6 w6 j0 j0 rfl
   )
  | (guard_target =~ Zg _ _ (Oper.mk _ (Op.nilCheck _) _ _ _ _) _ _ _ _; first
   | exact Zi5 u6 rfl
   )
  | (guard_target =~ Zg _ _ (Oper.mk _ (Op.makeFunc _ _ _) _ _ _ _) _ _ _ _; first
   | exact Zaq (by first | exact .nil | exact .cons u6 .nil | exact .cons u6 (.cons u6 .nil) | exact .cons u6 (.cons u6 (.cons u6 .nil))) rfl
   )
  ) : Zg P n o nid st rd up := h
theorem wS_ {x : Operand} {rd : List Nat} {v : V} (h : Jz st x rd v := by first | exact .lit rfl rfl | exact .c rfl | exact .view (U3.cut rfl rfl rfl) j3 | exact .view (.als rfl rfl v8) j3 | exact .view (.root rfl) j3 | exact .view (.sub rfl rfl rfl) j3 | exact .view .nil j3 | exact .ptr rfl rfl j3 | exact .root rfl j3 | exact .sptr rfl | exact .func | exact .clo v7 (by first | exact .nil | exact .cons w4 .nil | exact .cons w4 (.cons w4 .nil) | exact .cons w4 (.cons w4 (.cons w4 .nil)))) : Jz st x rd v := h
theorem gA_ {xs : List AV} {rd : List Nat} {ds : List D} (h : Vr st xs rd ds := by first | exact (.cons j8 .nil) | exact (.cons j8 (.cons j8 .nil)) | exact (.cons j8 (.cons j8 (.cons j8 .nil))) | exact (.cons j8 (.cons j8 (.cons j8 (.cons j8 .nil)))) | exact (.cons j8 (.cons j8 (.cons j8 (.cons j8 (.cons j8 .nil))))) | exact (.cons j8 (.cons j8 (.cons j8 (.cons j8 (.cons j8 (.cons j8 .nil))))))) : Vr st xs rd ds := h
theorem vA_ {x : Operand} {rd : List Nat} {d : D} {up : List (Nat × AV)} (h : Vw st x rd d up := by first | exact .lit rfl | exact .nil | exact .own rfl | exact .als rfl rfl | exact .ptr rfl rfl | exact Zm8 rfl rfl j0 | exact .part rfl rfl rfl | exact .c rfl) : Vw st x rd d up := h
/-- Two goals. -/
structure Two (A B : Prop) : Prop where
 l : A
 r : B
theorem w2_ {A B : Prop} (a : A) (b : B) : Two A B := ⟨a, b⟩
abbrev IsW {P : Program} {n : NN} {c : Code} {st : Nat -> AV} {nx : Nat} {Q : Exit -> (Nat -> AV) -> Nat -> Prop} : Prop := WpA P n c st nx Q
abbrev AtN {dr : Bool} {P : Program} {n : NN} {ops l : List Oper} {st : Nat -> AV} {nx : Nat} {pre : List (List Nat × List Nat)} {Q : (Nat -> AV) -> Nat -> Prop} {op : Op} {ty : TypeId} {pos : String} {aft : Array Edge} (k : Nat) : Prop := Za dr P n ops (Oper.mk (some k) op ty pos aft none :: l) st nx pre Q
abbrev AtS {dr : Bool} {P : Program} {n : NN} {ops l : List Oper} {st : Nat -> AV} {nx : Nat} {pre : List (List Nat × List Nat)} {Q : (Nat -> AV) -> Nat -> Prop} {op : Op} {ty : TypeId} {pos : String} {aft : Array Edge} {gd : Option (Nat × Bool)} (k : Nat) : Prop := Za dr P n ops (Oper.mk (some k) op ty pos aft gd :: l) st nx pre Q
abbrev Zh {dr : Bool} {P : Program} {n : NN} {ops l : List Oper} {st : Nat -> AV} {nx : Nat} {pre : List (List Nat × List Nat)} {Q : (Nat -> AV) -> Nat -> Prop} {d : Option Tmp} {ty : TypeId} {pos : String} {aft : Array Edge} {f : Operand} {a : Array Operand} {b : Array TypeId} : Prop := Za dr P n ops (Oper.mk d (Op.call ⟨Callee.value f, a, b⟩) ty pos aft none :: l) st nx pre Q
abbrev Z3 {dr : Bool} {P : Program} {n : NN} {ops l : List Oper} {st : Nat -> AV} {nx : Nat} {pre : List (List Nat × List Nat)} {Q : (Nat -> AV) -> Nat -> Prop} {d : Option Tmp} {ty : TypeId} {pos : String} {aft : Array Edge} {gd : Option (Nat × Bool)} {f : Operand} {a : Array Operand} {b : Array TypeId} : Prop := Za dr P n ops (Oper.mk d (Op.call ⟨Callee.value f, a, b⟩) ty pos aft gd :: l) st nx pre Q
abbrev IsG {dr : Bool} {P : Program} {n : NN} {ops l : List Oper} {st : Nat -> AV} {nx : Nat} {pre : List (List Nat × List Nat)} {Q : (Nat -> AV) -> Nat -> Prop} {d : Option Tmp} {ty : TypeId} {pos : String} {aft : Array Edge} {op : Op} {g : Nat × Bool} : Prop := Za dr P n ops (Oper.mk d op ty pos aft (some g) :: l) st nx pre Q
abbrev IsN {dr : Bool} {P : Program} {n : NN} {ops l : List Oper} {st : Nat -> AV} {nx : Nat} {pre : List (List Nat × List Nat)} {Q : (Nat -> AV) -> Nat -> Prop} {d : Option Tmp} {ty : TypeId} {pos : String} {aft : Array Edge} {op : Op} : Prop := Za dr P n ops (Oper.mk d op ty pos aft none :: l) st nx pre Q
theorem goA {A B : Prop} (a : A) (h : A -> B := by first | (guard_target =~ _ -> WpA _ _ _ _ _ _; first | exact fun a => WpA.seq a | exact fun a => WpA.drawU a | exact fun a => WpA.regionU a | exact fun a => WpA.block a | exact fun a => WpA.ret a | exact fun a => WpA.skip a | exact fun a => WpA.exit a | exact fun a => WpA.cond_true rfl a | exact fun a => WpA.cond_false rfl a | exact fun a => WpA.cond_ntrue rfl a | exact fun (a : Two _ _) => WpA.cond_dec rfl a.l a.r | exact fun (a : Two _ _) => WpA.cond_not rfl a.l a.r | exact fun (a : Two _ _) => WpA.cond rfl a.l a.r) | (guard_target =~ _ -> Za _ _ _ _ [] _ _ _ _; first | exact fun a => Za.nilL a | exact fun a => Za.nilD (by kernel_rfl) a) | (guard_target =~ _ -> Za _ _ _ _ (Oper.mk _ _ _ _ _ none :: _) _ _ _ _; exact fun a => Za.cons Zc a)) : B := h a
theorem goH {A B : Prop} (a : A) (h : A -> B := by first | (guard_target =~ _ -> WpA _ _ _ _ _ _; first | exact fun a => WpA.seq a | exact fun a => WpA.drawU a | exact fun a => WpA.regionU a | exact fun a => WpA.block a | exact fun a => WpA.ret a | exact fun a => WpA.skip a | exact fun a => WpA.exit a | exact fun a => WpA.cond_true rfl a | exact fun a => WpA.cond_false rfl a | exact fun a => WpA.cond_ntrue rfl a | exact fun (a : Two _ _) => WpA.cond_dec rfl a.l a.r | exact fun (a : Two _ _) => WpA.cond_not rfl a.l a.r | exact fun (a : Two _ _) => WpA.cond rfl a.l a.r) | (guard_target =~ _ -> Za _ _ _ _ (Oper.mk _ _ _ _ _ none :: _) _ _ _ _; exact fun a => Za.cons Zc a)) : B := h a
theorem psA {A B : Prop} (a : A) (h : A -> B := by first | exact fun a => Za.pass rfl rfl rfl rfl a | exact fun a => Za.pass_undef rfl rfl rfl a) : B := h a
theorem gdA {A B : Prop} (a : A) (h : A -> B := by first | exact fun a => Za.doit rfl rfl Zc a | ((fail_if_success (refine fun _ => Za.doit (rd := []) (up := []) rfl rfl ?_ ?_)); first | exact fun (a : Two _ _) => Za.guard_dec rfl rfl a.l a.r | exact fun (a : Two _ _) => Za.guard_not rfl rfl a.l a.r | exact fun (a : Two _ _) => Za.guard rfl rfl a.l a.r)) : B := h a
theorem neA {B : Prop} (a : B) (h : B -> B := by ((fail_if_success (guard_target =~ @Eq _ _ _ -> _)); (fail_if_success (guard_target =~ @Exists _ _ -> _)); exact fun a => a)) : B := h a
theorem nxA {A B : Prop} (a : A) (h : A -> B := by first | (guard_target =~ _ -> Z8 _ _ _ _ _; exact fun a => Z8.next a) | (guard_target =~ _ -> Zk _ _ _ _ _; exact fun a => Zk.next a)) : B := h a
theorem sO_ {A : Prop} (h : A := by first | exact ⟨rfl, rfl⟩ | (simp only [List.all_cons, List.all_nil, V.solid, D.solid, D.solids, V7, Uo, H1, Bool.and_self, Bool.and_true, and_self]; done) | simp [V.solid, D.solid, D.solids, Zeh, V7, Uo, H1]) : A := h
theorem lcA {A : Prop} (h : A := by first | exact .lit rfl rfl | exact .c rfl) : A := h
theorem geA {A : Prop} (h : A := by first | exact .c | exact .part rfl rfl) : A := h
theorem xR_ {A : Prop} (h : A := by exact rfl) : A := h
theorem rA_ {x : Operand} {rd : List Nat} {d : D} {up : List (Nat × AV)} {st : Nat -> AV} (h : Vw st x rd d up := by first | exact .c rfl | exact .own rfl | exact .als rfl rfl | exact .ptr rfl rfl | exact .part rfl rfl rfl) : Vw st x rd d up := h
theorem mA0 {A : Prop} (h : A := by exact .nil) : A := h
theorem mA1 {A : Prop} (h : A := by first | exact .nil | (guard_target =~ Xr _ _ (Arg.sh _ :: _) _ _; exact .sh mA0) | (guard_target =~ Xr _ _ (Arg.mv (V.one _) :: _) _ _; exact .mv vA_ mA0) | exact .mvAgg rfl rfl mA0) : A := h
theorem mA2 {A : Prop} (h : A := by first | exact .nil | (guard_target =~ Xr _ _ (Arg.sh _ :: _) _ _; exact .sh mA1) | (guard_target =~ Xr _ _ (Arg.mv (V.one _) :: _) _ _; exact .mv vA_ mA1) | exact .mvAgg rfl rfl mA1) : A := h
theorem mA3 {A : Prop} (h : A := by first | exact .nil | (guard_target =~ Xr _ _ (Arg.sh _ :: _) _ _; exact .sh mA2) | (guard_target =~ Xr _ _ (Arg.mv (V.one _) :: _) _ _; exact .mv vA_ mA2) | exact .mvAgg rfl rfl mA2) : A := h
theorem mA4 {A : Prop} (h : A := by first | exact .nil | (guard_target =~ Xr _ _ (Arg.sh _ :: _) _ _; exact .sh mA3) | (guard_target =~ Xr _ _ (Arg.mv (V.one _) :: _) _ _; exact .mv vA_ mA3) | exact .mvAgg rfl rfl mA3) : A := h
theorem mA5 {A : Prop} (h : A := by first | exact .nil | (guard_target =~ Xr _ _ (Arg.sh _ :: _) _ _; exact .sh mA4) | (guard_target =~ Xr _ _ (Arg.mv (V.one _) :: _) _ _; exact .mv vA_ mA4) | exact .mvAgg rfl rfl mA4) : A := h
theorem mA6 {A : Prop} (h : A := by first | exact .nil | (guard_target =~ Xr _ _ (Arg.sh _ :: _) _ _; exact .sh mA5) | (guard_target =~ Xr _ _ (Arg.mv (V.one _) :: _) _ _; exact .mv vA_ mA5) | exact .mvAgg rfl rfl mA5) : A := h
theorem mA7 {A : Prop} (h : A := by first | exact .nil | (guard_target =~ Xr _ _ (Arg.sh _ :: _) _ _; exact .sh mA6) | (guard_target =~ Xr _ _ (Arg.mv (V.one _) :: _) _ _; exact .mv vA_ mA6) | exact .mvAgg rfl rfl mA6) : A := h
theorem mA8 {A : Prop} (h : A := by first | exact .nil | (guard_target =~ Xr _ _ (Arg.sh _ :: _) _ _; exact .sh mA7) | (guard_target =~ Xr _ _ (Arg.mv (V.one _) :: _) _ _; exact .mv vA_ mA7) | exact .mvAgg rfl rfl mA7) : A := h
theorem rD0 {A : Prop} (h : A := by exact .nil) : A := h
theorem rD1 {A : Prop} (h : A := by first | exact .nil | (guard_target =~ Va _ _ (Arg.sh (V.one _) :: _) _; exact .sh wS_ rD0) | (guard_target =~ Va _ _ (Arg.sh (V.agg _) :: _) _; exact .shAgg rfl gA_ rD0) | exact .mv rD0) : A := h
theorem rD2 {A : Prop} (h : A := by first | exact .nil | (guard_target =~ Va _ _ (Arg.sh (V.one _) :: _) _; exact .sh wS_ rD1) | (guard_target =~ Va _ _ (Arg.sh (V.agg _) :: _) _; exact .shAgg rfl gA_ rD1) | exact .mv rD1) : A := h
theorem rD3 {A : Prop} (h : A := by first | exact .nil | (guard_target =~ Va _ _ (Arg.sh (V.one _) :: _) _; exact .sh wS_ rD2) | (guard_target =~ Va _ _ (Arg.sh (V.agg _) :: _) _; exact .shAgg rfl gA_ rD2) | exact .mv rD2) : A := h
theorem rD4 {A : Prop} (h : A := by first | exact .nil | (guard_target =~ Va _ _ (Arg.sh (V.one _) :: _) _; exact .sh wS_ rD3) | (guard_target =~ Va _ _ (Arg.sh (V.agg _) :: _) _; exact .shAgg rfl gA_ rD3) | exact .mv rD3) : A := h
theorem rD5 {A : Prop} (h : A := by first | exact .nil | (guard_target =~ Va _ _ (Arg.sh (V.one _) :: _) _; exact .sh wS_ rD4) | (guard_target =~ Va _ _ (Arg.sh (V.agg _) :: _) _; exact .shAgg rfl gA_ rD4) | exact .mv rD4) : A := h
theorem rD6 {A : Prop} (h : A := by first | exact .nil | (guard_target =~ Va _ _ (Arg.sh (V.one _) :: _) _; exact .sh wS_ rD5) | (guard_target =~ Va _ _ (Arg.sh (V.agg _) :: _) _; exact .shAgg rfl gA_ rD5) | exact .mv rD5) : A := h
theorem rD7 {A : Prop} (h : A := by first | exact .nil | (guard_target =~ Va _ _ (Arg.sh (V.one _) :: _) _; exact .sh wS_ rD6) | (guard_target =~ Va _ _ (Arg.sh (V.agg _) :: _) _; exact .shAgg rfl gA_ rD6) | exact .mv rD6) : A := h
theorem rD8 {A : Prop} (h : A := by first | exact .nil | (guard_target =~ Va _ _ (Arg.sh (V.one _) :: _) _; exact .sh wS_ rD7) | (guard_target =~ Va _ _ (Arg.sh (V.agg _) :: _) _; exact .shAgg rfl gA_ rD7) | exact .mv rD7) : A := h
theorem oS0 {A : Prop} (h : A := by exact .nil) : A := h
theorem oS1 {A : Prop} (h : A := by first | exact .nil | (guard_target =~ Uy _ _ (Arg.sh _ :: _) _; exact .sh oS0) | (guard_target =~ Uy _ _ (Arg.mv _ :: _) _; exact .mv oS0) | exact .io rfl oS0) : A := h
theorem oS2 {A : Prop} (h : A := by first | exact .nil | (guard_target =~ Uy _ _ (Arg.sh _ :: _) _; exact .sh oS1) | (guard_target =~ Uy _ _ (Arg.mv _ :: _) _; exact .mv oS1) | exact .io rfl oS1) : A := h
theorem oS3 {A : Prop} (h : A := by first | exact .nil | (guard_target =~ Uy _ _ (Arg.sh _ :: _) _; exact .sh oS2) | (guard_target =~ Uy _ _ (Arg.mv _ :: _) _; exact .mv oS2) | exact .io rfl oS2) : A := h
theorem oS4 {A : Prop} (h : A := by first | exact .nil | (guard_target =~ Uy _ _ (Arg.sh _ :: _) _; exact .sh oS3) | (guard_target =~ Uy _ _ (Arg.mv _ :: _) _; exact .mv oS3) | exact .io rfl oS3) : A := h
theorem oS5 {A : Prop} (h : A := by first | exact .nil | (guard_target =~ Uy _ _ (Arg.sh _ :: _) _; exact .sh oS4) | (guard_target =~ Uy _ _ (Arg.mv _ :: _) _; exact .mv oS4) | exact .io rfl oS4) : A := h
theorem oS6 {A : Prop} (h : A := by first | exact .nil | (guard_target =~ Uy _ _ (Arg.sh _ :: _) _; exact .sh oS5) | (guard_target =~ Uy _ _ (Arg.mv _ :: _) _; exact .mv oS5) | exact .io rfl oS5) : A := h
theorem oS7 {A : Prop} (h : A := by first | exact .nil | (guard_target =~ Uy _ _ (Arg.sh _ :: _) _; exact .sh oS6) | (guard_target =~ Uy _ _ (Arg.mv _ :: _) _; exact .mv oS6) | exact .io rfl oS6) : A := h
theorem oS8 {A : Prop} (h : A := by first | exact .nil | (guard_target =~ Uy _ _ (Arg.sh _ :: _) _; exact .sh oS7) | (guard_target =~ Uy _ _ (Arg.mv _ :: _) _; exact .mv oS7) | exact .io rfl oS7) : A := h
theorem d1_ {A B : Prop} (a : A) (h : A -> B := by (guard_target =~ _ -> Z6 _ _ _ _ _ Exit.ret _ _; exact fun a => Z6.ret (.one rA_ .nil) oS8 a rfl)) : B := h a
theorem d2_ {A B : Prop} (a : A) (h : A -> B := by (guard_target =~ _ -> Z6 _ _ _ _ _ Exit.ret _ _; exact fun a => Z6.ret (.one rA_ (.one rA_ .nil)) oS8 a rfl)) : B := h a
theorem d3_ {A B : Prop} (a : A) (h : A -> B := by (guard_target =~ _ -> Z6 _ _ _ _ _ Exit.ret _ _; exact fun a => Z6.ret (.one rA_ (.one rA_ (.one rA_ .nil))) oS8 a rfl)) : B := h a
theorem dc_ {A B : Prop} (a : A) (h : A -> B := by (guard_target =~ _ -> Z6 _ _ _ _ _ Exit.ret _ _; exact fun a => Z6.ret (.cell inferInstance rfl rfl .nil) oS8 a rfl)) : B := h a
theorem dD_ {A B : Prop} (a : A) (h : A -> B := by (guard_target =~ _ -> Z6 _ _ _ _ _ Exit.ret _ _; exact fun a => Z6.ret (.cell inferInstance rfl rfl (.one rA_ .nil)) oS8 a rfl)) : B := h a
theorem ax_ {A B : Prop} (a : A) (h : A -> B := by first | (guard_target =~ _ -> WpA _ _ _ _ _ _; first | exact fun a => WpA.seq a | exact fun a => WpA.drawU a | exact fun a => WpA.regionU a | exact fun a => WpA.block a | exact fun a => WpA.ret a | exact fun a => WpA.skip a | exact fun a => WpA.exit a | exact fun a => WpA.cond_true rfl a | exact fun a => WpA.cond_false rfl a | exact fun a => WpA.cond_ntrue rfl a | exact fun (a : Two _ _) => WpA.cond_dec rfl a.l a.r | exact fun (a : Two _ _) => WpA.cond_not rfl a.l a.r | exact fun (a : Two _ _) => WpA.cond rfl a.l a.r) | (guard_target =~ _ -> Za _ _ _ _ [] _ _ _ _; first | exact fun a => Za.nilL a | exact fun a => Za.nilD (by kernel_rfl) a) | (guard_target =~ _ -> Za _ _ _ _ (Oper.mk _ _ _ _ _ none :: _) _ _ _ _; exact fun a => Za.cons Zc a) | (guard_target =~ _ -> Za _ _ _ _ (Oper.mk _ _ _ _ _ (some _) :: _) _ _ _ _; first | exact fun a => Za.pass rfl rfl rfl rfl a | exact fun a => Za.pass_undef rfl rfl rfl a | exact fun a => Za.doit rfl rfl Zc a | ((fail_if_success (refine fun _ => Za.doit (rd := []) (up := []) rfl rfl ?_ ?_)); first | exact fun (a : Two _ _) => Za.guard_dec rfl rfl a.l a.r | exact fun (a : Two _ _) => Za.guard_not rfl rfl a.l a.r | exact fun (a : Two _ _) => Za.guard rfl rfl a.l a.r)) | (guard_target =~ _ -> Z8 _ _ _ _ _; exact fun a => Z8.next a) | (guard_target =~ _ -> Zk _ _ _ _ _; exact fun a => Zk.next a)) : B := h a
theorem a1_ {A B : Prop} (a : A) (h : A -> B := by first | exact fun a => ax_ a | (guard_target =~ _ -> Z6 _ _ _ _ _ Exit.ret _ _; exact fun a => Z6.ret (.one rA_ .nil) oS8 a rfl)) : B := h a
theorem a2_ {A B : Prop} (a : A) (h : A -> B := by first | exact fun a => ax_ a | (guard_target =~ _ -> Z6 _ _ _ _ _ Exit.ret _ _; exact fun a => Z6.ret (.one rA_ (.one rA_ .nil)) oS8 a rfl)) : B := h a
theorem a3_ {A B : Prop} (a : A) (h : A -> B := by first | exact fun a => ax_ a | (guard_target =~ _ -> Z6 _ _ _ _ _ Exit.ret _ _; exact fun a => Z6.ret (.one rA_ (.one rA_ (.one rA_ .nil))) oS8 a rfl)) : B := h a
theorem ac_ {A B : Prop} (a : A) (h : A -> B := by first | exact fun a => ax_ a | (guard_target =~ _ -> Z6 _ _ _ _ _ Exit.ret _ _; exact fun a => Z6.ret (.cell inferInstance rfl rfl .nil) oS8 a rfl)) : B := h a
theorem aD_ {A B : Prop} (a : A) (h : A -> B := by first | exact fun a => ax_ a | (guard_target =~ _ -> Z6 _ _ _ _ _ Exit.ret _ _; exact fun a => Z6.ret (.cell inferInstance rfl rfl (.one rA_ .nil)) oS8 a rfl)) : B := h a
theorem at_ {d : Nat} {dr : Bool} {P : Program} {n : NN} {ops l : List Oper} {st : Nat -> AV} {nx : Nat} {pre : List (List Nat × List Nat)} {Q : (Nat -> AV) -> Nat -> Prop} {K : FuncId} {xs : Array Operand} {ts : Array TypeId} {args : List Arg} {rs : List V} {rd rd2 : List Nat} {up : List (Nat × AV)} {ty pos aft} [Zs P K] (e : d = d) (hc : Zj P K args rs []) (hm : Xr st xs.toList args rd up) (hr : Va (Zn st up) xs.toList args rd2) (hd : n d = true) (h : Za dr P n ops l (Zn st (up ++ [(d, Y3 nx rs)])) (nx + 1) ((rdE (rd ++ rd2), fpE ((up ++ [(d, Y3 nx rs)]).map Prod.fst)) :: pre) Q) : Za dr P n ops (⟨some d, .call ⟨.value (.func K), xs, ts⟩, ty, pos, aft, none⟩ :: l) st nx pre Q := Za.cons (sC_ hc hm hr hd) h
theorem kM_ {C A B : Prop} (c : C) (a : A) (h : C -> A -> B := by (guard_target =~ _ -> _ -> Zh; exact fun c a => at_ rfl c mA8 rD8 rfl a)) : B := h c a
theorem kN_ (d : Nat) {C A B : Prop} (c : C) (a : A) (h : d = d -> C -> A -> B := by (guard_target =~ _ -> _ -> _ -> Zh; exact fun e c a => at_ e c mA8 rD8 rfl a)) : B := h rfl c a
end
end Go.Pv
