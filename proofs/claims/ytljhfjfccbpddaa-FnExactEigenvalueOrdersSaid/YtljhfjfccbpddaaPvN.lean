/- The rules by which a walk goes on by itself. No condition. -/
import Derived.Test.YtljhfjfccbpddaaPvM
namespace Go.Pv
set_option linter.unusedVariables false
set_option linter.unusedSimpArgs false
open Go.RowKit

section
variable {P : Program} {n : NN} {nid : Nat} {st : Nat → AV} {nx : Nat}

theorem put_eq_self {st : Nat → AV} {t : Nat} {v : AV} (h : st t = v) : put st t v = st := by
  funext s; unfold put; split
  · rename_i e; subst e; exact h.symm
  · rfl

theorem int_eq {k : IntKind} {a b : Int} (h : a = b) : AV.c (.lit (.int k a)) = AV.c (.lit (.int k b)) := by rw [h]
theorem bool_eq {a b : Bool} (h : a = b) : AV.c (.lit (.bool a)) = AV.c (.lit (.bool b)) := by rw [h]

/-- A list of plain values. -/
def lits (l : List Value) : List D := l.map D.lit
theorem erases_lits (l : List Value) : D.erases (lits l) = lits l := by
  unfold lits; rw [D.erases_eq]; simp [D.erase]
theorem solids_lits (l : List Value) : D.solids (lits l) = true := by
  unfold lits
  induction l with
  | nil => rfl
  | cons v l ih => simpa [D.solids, D.solid] using ih
theorem plain_lits (l : List Value) : ∀ c ∈ lits l, c.plain = true := by
  intro c hc
  obtain ⟨v, _, rfl⟩ := List.mem_map.1 hc
  rfl

/-! ### Guards that are not decided yet -/
theorem RunL.guard {ops : Array Oper} {Q : (Nat → AV) → Nat → Prop} {d op ty pos aft j b' t} {b : Bool} {l : List Oper} (hd : (ops[j]?).bind (·.dst) = some t) (ht : st t = .c (.lit (.bool b)))
    (h1 : b = true → RunL P n ops (⟨d, op, ty, pos, aft, some (j, b')⟩ :: l) (put st t (.c (.lit (.bool true)))) nx Q)
    (h2 : b = false → RunL P n ops (⟨d, op, ty, pos, aft, some (j, b')⟩ :: l) (put st t (.c (.lit (.bool false)))) nx Q) : RunL P n ops (⟨d, op, ty, pos, aft, some (j, b')⟩ :: l) st nx Q := by
  have _ := hd
  cases b with
  | true => have := h1 rfl; rwa [put_eq_self ht] at this
  | false => have := h2 rfl; rwa [put_eq_self ht] at this
theorem RunL.guard_dec {ops : Array Oper} {Q : (Nat → AV) → Nat → Prop} {d op ty pos aft j b' t} {c : Prop} {hc : Decidable c} {l : List Oper} (hd : (ops[j]?).bind (·.dst) = some t) (ht : st t = .c (.lit (.bool (@decide c hc))))
    (h1 : c → RunL P n ops (⟨d, op, ty, pos, aft, some (j, b')⟩ :: l) (put st t (.c (.lit (.bool true)))) nx Q)
    (h2 : ¬ c → RunL P n ops (⟨d, op, ty, pos, aft, some (j, b')⟩ :: l) (put st t (.c (.lit (.bool false)))) nx Q) : RunL P n ops (⟨d, op, ty, pos, aft, some (j, b')⟩ :: l) st nx Q :=
  RunL.guard hd ht (fun h => h1 (of_decide_eq_true h)) (fun h => h2 (of_decide_eq_false h))
theorem RunL.guard_not {ops : Array Oper} {Q : (Nat → AV) → Nat → Prop} {d op ty pos aft j b' t} {c : Prop} {hc : Decidable c} {l : List Oper} (hd : (ops[j]?).bind (·.dst) = some t) (ht : st t = .c (.lit (.bool (!@decide c hc))))
    (h1 : ¬ c → RunL P n ops (⟨d, op, ty, pos, aft, some (j, b')⟩ :: l) (put st t (.c (.lit (.bool true)))) nx Q)
    (h2 : c → RunL P n ops (⟨d, op, ty, pos, aft, some (j, b')⟩ :: l) (put st t (.c (.lit (.bool false)))) nx Q) : RunL P n ops (⟨d, op, ty, pos, aft, some (j, b')⟩ :: l) st nx Q :=
  RunL.guard hd ht (fun h => h1 (of_decide_eq_false (by simpa using h))) (fun h => h2 (of_decide_eq_true (by simpa using h)))

/-! ### Tests -/
variable {Q : Exit → (Nat → AV) → Nat → Prop}
theorem WpA.cond_true {c : Operand} {x y : Code} (hc : Lit st c (.bool true)) (h : WpA P n x st nx Q) : WpA P n (.cond c x y) st nx Q :=
  WpA.cond hc (fun _ => h) (fun h => by cases h)
theorem WpA.cond_false {c : Operand} {x y : Code} (hc : Lit st c (.bool false)) (h : WpA P n y st nx Q) : WpA P n (.cond c x y) st nx Q :=
  WpA.cond hc (fun h => by cases h) (fun _ => h)
theorem WpA.cond_ntrue {c : Operand} {x y : Code} (hc : Lit st c (.bool (!true))) (h : WpA P n y st nx Q) : WpA P n (.cond c x y) st nx Q :=
  WpA.cond hc (fun h => by cases h) (fun _ => h)
theorem WpA.cond_dec {c : Operand} {x y : Code} {p : Prop} {hp : Decidable p} (hc : Lit st c (.bool (@decide p hp))) (h1 : p → WpA P n x st nx Q) (h2 : ¬ p → WpA P n y st nx Q) : WpA P n (.cond c x y) st nx Q :=
  WpA.cond hc (fun h => h1 (of_decide_eq_true h)) (fun h => h2 (of_decide_eq_false h))
theorem WpA.cond_not {c : Operand} {x y : Code} {p : Prop} {hp : Decidable p} (hc : Lit st c (.bool (!@decide p hp))) (h1 : ¬ p → WpA P n x st nx Q) (h2 : p → WpA P n y st nx Q) : WpA P n (.cond c x y) st nx Q :=
  WpA.cond hc (fun h => h1 (of_decide_eq_false (by simpa using h))) (fun h => h2 (of_decide_eq_true (by simpa using h)))

/-! ### The end of a function -/
def Done (P : Program) (fn : Func) (args : List Arg) (rs : List V) (outs : List D) (e : Exit) (s : Nat → AV) (_ : Nat) : Prop :=
  (e = .normal ∨ e = .ret) ∧ ∃ s', Ress P s fn.results.toList rs s' ∧ Outs s' 0 args outs

theorem Done.ret {fn : Func} {args : List Arg} {rs rs' : List V} {outs outs' : List D} {s s' : Nat → AV} {k : Nat} (hr : Ress P s fn.results.toList rs' s') (ho : Outs s' 0 args outs') (h : rs' = rs) (h' : outs' = outs) : Done P fn args rs outs .ret s k := by
  subst h h'; exact ⟨.inr rfl, s', hr, ho⟩
theorem Done.normal {fn : Func} {args : List Arg} {rs rs' : List V} {outs outs' : List D} {s s' : Nat → AV} {k : Nat} (hr : Ress P s fn.results.toList rs' s') (ho : Outs s' 0 args outs') (h : rs' = rs) (h' : outs' = outs) : Done P fn args rs outs .normal s k := by
  subst h h'; exact ⟨.inl rfl, s', hr, ho⟩

/-- A contract, by the walk of the function's body. -/
theorem callA_of {K : FuncId} {fn : Func} {c : Code} {args : List Arg} {rs : List V} {outs : List D} (m : Nat) (hf : P.funcs[K]? = some fn) (hb : fn.body = some c) (hm : fn.ntmps = m)
    (hs : rs.all V.solid = true ∧ D.solids outs = true) (h : WpA P ⟨fun d => decide (d < m) && !((heldOf 0 args).contains d), [], [], []⟩ c (initSt args) args.length (Done P fn args rs outs)) : CallA P K args rs outs :=
  callG_of (n := ⟨fun d => decide (d < m) && !((heldOf 0 args).contains d), [], [], []⟩) hf hb (fun d hd => by
    rw [hm]; simp only [Bool.and_eq_true, decide_eq_true_eq] at hd; exact hd.1) (fun p hp => by simp [hp]) rfl rfl rfl (fun _ => hs) h
theorem callS_of {K : FuncId} {fn : Func} {c : Code} {args : List Arg} {rs : List V} {outs : List D} (m : Nat) (hf : P.funcs[K]? = some fn) (hb : fn.body = some c) (hm : fn.ntmps = m)
    (h : WpA P ⟨fun d => decide (d < m) && !((heldOf 0 args).contains d), [], [], []⟩ c (initSt args) args.length (Done P fn args rs outs)) : CallS P K args rs outs :=
  callG_of (n := ⟨fun d => decide (d < m) && !((heldOf 0 args).contains d), [], [], []⟩) hf hb (fun d hd => by
    rw [hm]; simp only [Bool.and_eq_true, decide_eq_true_eq] at hd; exact hd.1) (fun p hp => by simp [hp]) rfl rfl rfl (fun h => by cases h) h

/-! ### Names are copied -/
theorem step_move_als {d t x id : Nat} {path : List Nat} {ty pos aft g} (h : st t = .als x id path) (hd : n d = true) : Step P n ⟨some d, .move (.tmp t), ty, pos, aft, g⟩ nid st [t] [(d, .als x id path)] := step_move_light h rfl hd
theorem step_move_sub {d t x id sz lo m : Nat} {path : List Nat} {ty pos aft g} (h : st t = .sub x id path sz lo m) (hd : n d = true) : Step P n ⟨some d, .move (.tmp t), ty, pos, aft, g⟩ nid st [t] [(d, .sub x id path sz lo m)] := step_move_light h rfl hd
theorem step_move_ptr {d t x id off : Nat} {path : List Nat} {ty pos aft g} (h : st t = .ptr x id path off) (hd : n d = true) : Step P n ⟨some d, .move (.tmp t), ty, pos, aft, g⟩ nid st [t] [(d, .ptr x id path off)] := step_move_light h rfl hd
theorem step_move_sptr {d t off : Nat} {cs : List D} {ty pos aft g} (h : st t = .sptr cs off) (hd : n d = true) : Step P n ⟨some d, .move (.tmp t), ty, pos, aft, g⟩ nid st [t] [(d, .sptr cs off)] := step_move_light h rfl hd
theorem step_assign_als {d t x id : Nat} {path : List Nat} {ty pos aft g} (h : st t = .als x id path) (hd : n d = true) : Step P n ⟨some d, .assign (.tmp t), ty, pos, aft, g⟩ nid st [t] [(d, .als x id path)] := step_assign_light h rfl hd
theorem step_assign_sub {d t x id sz lo m : Nat} {path : List Nat} {ty pos aft g} (h : st t = .sub x id path sz lo m) (hd : n d = true) : Step P n ⟨some d, .assign (.tmp t), ty, pos, aft, g⟩ nid st [t] [(d, .sub x id path sz lo m)] := step_assign_light h rfl hd
theorem step_assign_ptr {d t x id off : Nat} {path : List Nat} {ty pos aft g} (h : st t = .ptr x id path off) (hd : n d = true) : Step P n ⟨some d, .assign (.tmp t), ty, pos, aft, g⟩ nid st [t] [(d, .ptr x id path off)] := step_assign_light h rfl hd
theorem step_assign_sptr {d t off : Nat} {cs : List D} {ty pos aft g} (h : st t = .sptr cs off) (hd : n d = true) : Step P n ⟨some d, .assign (.tmp t), ty, pos, aft, g⟩ nid st [t] [(d, .sptr cs off)] := step_assign_light h rfl hd
/-- nil. -/
theorem step_assign_nil {d sz : Nat} {T : TypeId} {pos aft g} [SliceTy P T sz] (hd : n d = true) : Step P n ⟨some d, .assign (.const (.slice none 0 0)), T, pos, aft, g⟩ nid st [] [(d, .own nid (.sl true sz []))] :=
  step_assign_take .nil hd

end


end Go.Pv
