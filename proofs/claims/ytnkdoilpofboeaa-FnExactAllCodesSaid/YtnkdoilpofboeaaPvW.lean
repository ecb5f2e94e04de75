/- One walk for both kinds of regions, and the step of any operation but a call of a Go function. No condition. -/
import Derived.Test.YtnkdoilpofboeaaPvU
namespace Go.Pv
open Go.RowKit
section
variable {P : Program} {n : Nat → Bool} {st : Nat → AV} {nx nid : Nat} {dr : Bool} {ops l : List Oper} {pre : List (List Nat × List Nat)} {Q : (Nat → AV) → Nat → Prop}

/-- The rest l of a region's operations; dr: the region draws its order. -/
def RunU (dr : Bool) (P : Program) (n : Nat → Bool) (ops l : List Oper) (st : Nat → AV) (nx : Nat) (pre : List (List Nat × List Nat)) (Q : (Nat → AV) → Nat → Prop) : Prop :=
  if dr = true then RunD P n ops l st nx pre Q else RunL P n ops.toArray l st nx Q

theorem RunL.more {ops : Array Oper} (h : RunL P n ops l st (nx + 1) Q) : RunL P n ops l st nx Q :=
  fun f a w Q' hn hr hQ => h f a w Q' hn (hr.weaken fun i hi => by omega) hQ
theorem RunU.nilL (h : Q st nx) : RunU false P n ops [] st nx pre Q := RunL.nil h
theorem RunU.nilD (hp : pairsOk ops pre.reverse = true) (h : Q st nx) : RunU true P n ops [] st nx pre Q := RunD.nil hp h
theorem RunU.cons {d op ty pos aft rd up} (hs : Step P n ⟨d, op, ty, pos, aft, none⟩ nx st rd up) (h : RunU dr P n ops l (puts st up) (nx + 1) ((rd, up.map Prod.fst) :: pre) Q) : RunU dr P n ops (⟨d, op, ty, pos, aft, none⟩ :: l) st nx pre Q := by
  cases dr
  · exact RunL.cons hs h
  · exact RunD.cons hs h
theorem RunU.doit {d op ty pos aft j b t rd up} (hd : (ops[j]?).bind (·.dst) = some t) (ht : st t = .c (.lit (.bool b))) (hs : Step P n ⟨d, op, ty, pos, aft, some (j, b)⟩ nx st rd up)
    (h : RunU dr P n ops l (puts st up) (nx + 1) ((t :: rd, up.map Prod.fst) :: pre) Q) : RunU dr P n ops (⟨d, op, ty, pos, aft, some (j, b)⟩ :: l) st nx pre Q := by
  cases dr
  · exact RunL.doit (by simpa using hd) ht hs h
  · exact RunD.doit hd ht hs h
theorem RunU.pass {d op ty pos aft j b b' t} (hd : (ops[j]?).bind (·.dst) = some t) (ht : st t = .c (.lit (.bool b))) (hb : b = !b') (hdn : n d = true)
    (h : RunU dr P n ops l (put st d (.tup [])) (nx + 1) (([t], [d]) :: pre) Q) : RunU dr P n ops (⟨some d, op, ty, pos, aft, some (j, b')⟩ :: l) st nx pre Q := by
  cases dr
  · exact RunL.pass (by simpa using hd) ht hb hdn (RunL.more h)
  · exact RunD.pass hd ht hb hdn h
theorem RunU.pass_undef {d op ty pos aft j b' t} (hd : (ops[j]?).bind (·.dst) = some t) (ht : st t = .tup []) (hdn : n d = true)
    (h : RunU dr P n ops l (put st d (.tup [])) (nx + 1) (([t], [d]) :: pre) Q) : RunU dr P n ops (⟨some d, op, ty, pos, aft, some (j, b')⟩ :: l) st nx pre Q := by
  cases dr
  · exact RunL.pass_undef (by simpa using hd) ht hdn (RunL.more h)
  · exact RunD.pass_undef hd ht hdn h
theorem RunU.guard {d op ty pos aft j b' t} {b : Bool} (hd : (ops[j]?).bind (·.dst) = some t) (ht : st t = .c (.lit (.bool b)))
    (h1 : b = true → RunU dr P n ops (⟨d, op, ty, pos, aft, some (j, b')⟩ :: l) (put st t (.c (.lit (.bool true)))) nx pre Q)
    (h2 : b = false → RunU dr P n ops (⟨d, op, ty, pos, aft, some (j, b')⟩ :: l) (put st t (.c (.lit (.bool false)))) nx pre Q) : RunU dr P n ops (⟨d, op, ty, pos, aft, some (j, b')⟩ :: l) st nx pre Q := by
  have _ := hd
  cases b with
  | true => have := h1 rfl; rwa [put_eq_self ht] at this
  | false => have := h2 rfl; rwa [put_eq_self ht] at this
theorem RunU.guard_dec {d op ty pos aft j b' t} {c : Prop} {hc : Decidable c} (hd : (ops[j]?).bind (·.dst) = some t) (ht : st t = .c (.lit (.bool (@decide c hc))))
    (h1 : c → RunU dr P n ops (⟨d, op, ty, pos, aft, some (j, b')⟩ :: l) (put st t (.c (.lit (.bool true)))) nx pre Q)
    (h2 : ¬ c → RunU dr P n ops (⟨d, op, ty, pos, aft, some (j, b')⟩ :: l) (put st t (.c (.lit (.bool false)))) nx pre Q) : RunU dr P n ops (⟨d, op, ty, pos, aft, some (j, b')⟩ :: l) st nx pre Q :=
  RunU.guard hd ht (fun h => h1 (of_decide_eq_true h)) (fun h => h2 (of_decide_eq_false h))
theorem RunU.guard_not {d op ty pos aft j b' t} {c : Prop} {hc : Decidable c} (hd : (ops[j]?).bind (·.dst) = some t) (ht : st t = .c (.lit (.bool (!@decide c hc))))
    (h1 : ¬ c → RunU dr P n ops (⟨d, op, ty, pos, aft, some (j, b')⟩ :: l) (put st t (.c (.lit (.bool true)))) nx pre Q)
    (h2 : c → RunU dr P n ops (⟨d, op, ty, pos, aft, some (j, b')⟩ :: l) (put st t (.c (.lit (.bool false)))) nx pre Q) : RunU dr P n ops (⟨d, op, ty, pos, aft, some (j, b')⟩ :: l) st nx pre Q :=
  RunU.guard hd ht (fun h => h1 (of_decide_eq_false (by simpa using h))) (fun h => h2 (of_decide_eq_true (by simpa using h)))
theorem WpA.regionU {Q : Exit → (Nat → AV) → Nat → Prop} {id : Nat} (h : RunU false P n l l st nx [] fun s k => Q .normal s k) : WpA P n (.region id l.toArray false) st nx Q := WpA.region h
theorem WpA.drawU [hm : Mixed P] {Q : Exit → (Nat → AV) → Nat → Prop} {id : Nat} (h : RunU true P n l l st nx [] fun s k => Q .normal s k) : WpA P n (.region id l.toArray true) st nx Q := WpA.draw h

/-- The step of any operation but a call of a Go function: how it is found. -/
theorem step_any {o : Oper} {rd : List Nat} {up : List (Nat × AV)} (h : Step P n o nid st rd up := by first
    | (guard_target =~ Step _ _ (Oper.mk _ (Op.move _) _ _ _ _) _ _ _ _; first
      | exact step_move_const rfl rfl
      | exact step_move_c rfl rfl
      | exact step_move_own rfl rfl
      | exact step_move_als rfl rfl
      | exact step_move_ptr rfl rfl
      | exact step_move_sptr rfl rfl
      | exact step_move_pt rfl rfl
      | exact step_move_sub rfl rfl
      | exact step_move_tup rfl rfl (by decide)
      )
    | (guard_target =~ Step _ _ (Oper.mk _ (Op.assign _) _ _ _ _) _ _ _ _; first
      | exact step_assign_nil rfl
      | exact step_const rfl rfl
      | exact step_assign_c rfl rfl
      | exact step_assign_own rfl rfl (by decide)
      | exact step_assign_agg rfl rfl (by decide)
      | exact step_assign_sub rfl rfl
      | exact step_assign_take (by first | exact .lit rfl | exact .nil | exact .own rfl | exact .als rfl rfl | exact .ptr rfl rfl | exact .part rfl rfl rfl | exact .c rfl) rfl
      )
    | (guard_target =~ Step _ _ (Oper.mk _ (Op.call _) _ _ _ _) _ _ _ _; first
      | exact step_len_map (by first | exact .als rfl rfl rfl | exact .root rfl | exact .sh rfl | exact .sub rfl rfl rfl | exact .nil) rfl
      | exact step_len (by first | exact .als rfl rfl rfl | exact .root rfl | exact .sh rfl | exact .sub rfl rfl rfl | exact .nil) _ (Nat.mul_one _).symm (by decide) rfl
      | exact step_append_sh0 (by first | exact .lit rfl | exact .nil | exact .own rfl | exact .als rfl rfl | exact .ptr rfl rfl | exact .part rfl rfl rfl | exact .c rfl) (by exact rfl) (by first | omega | (simp only [List.length_map, List.length_set, List.length_take, List.length_drop, List.length_reverse, List.length_replicate, List.length_append, List.length_cons, List.length_nil]; omega)) rfl
      | exact step_append_give0 (by first | exact .lit rfl | exact .nil | exact .own rfl | exact .als rfl rfl | exact .ptr rfl rfl | exact .part rfl rfl rfl | exact .c rfl) (by first | exact .lit rfl | exact .nil | exact .own rfl | exact .als rfl rfl | exact .ptr rfl rfl | exact .part rfl rfl rfl | exact .c rfl) (by first | omega | (simp only [List.length_map, List.length_set, List.length_take, List.length_drop, List.length_reverse, List.length_replicate, List.length_append, List.length_cons, List.length_nil]; omega)) rfl
      | exact step_append_int1 (by first | exact .lit rfl | exact .nil | exact .own rfl | exact .als rfl rfl | exact .ptr rfl rfl | exact .part rfl rfl rfl | exact .c rfl) (by exact .root rfl) (by first | omega | (simp only [List.length_map, List.length_set, List.length_take, List.length_drop, List.length_reverse, List.length_replicate, List.length_append, List.length_cons, List.length_nil]; omega)) rfl
      | exact step_append_ints_sh (by first | exact .lit rfl | exact .nil | exact .own rfl | exact .als rfl rfl | exact .ptr rfl rfl | exact .part rfl rfl rfl | exact .c rfl) (by exact rfl) (by first | omega | (simp only [List.length_map, List.length_set, List.length_take, List.length_drop, List.length_reverse, List.length_replicate, List.length_append, List.length_cons, List.length_nil]; omega)) rfl
      | exact step_append_LL1 (by first | exact .lit rfl | exact .nil | exact .own rfl | exact .als rfl rfl | exact .ptr rfl rfl | exact .part rfl rfl rfl | exact .c rfl) (by first | exact .lit rfl | exact .nil | exact .own rfl | exact .als rfl rfl | exact .ptr rfl rfl | exact .part rfl rfl rfl | exact .c rfl) (by first | omega | (simp only [List.length_map, List.length_set, List.length_take, List.length_drop, List.length_reverse, List.length_replicate, List.length_append, List.length_cons, List.length_nil]; omega)) rfl
      | exact step_append_ints_view (by first | exact .lit rfl | exact .nil | exact .own rfl | exact .als rfl rfl | exact .ptr rfl rfl | exact .part rfl rfl rfl | exact .c rfl) (by first | exact .als rfl rfl rfl | exact .root rfl | exact .sh rfl | exact .sub rfl rfl rfl | exact .nil) (by first | omega | (simp only [List.length_map, List.length_set, List.length_take, List.length_drop, List.length_reverse, List.length_replicate, List.length_append, List.length_cons, List.length_nil]; omega)) rfl
      )
    | (guard_target =~ Step _ _ (Oper.mk _ (Op.binOp _ _ _ _ _) _ _ _ _) _ _ _ _; first
      | exact step_eql rfl rfl rfl
      | exact step_neq rfl rfl rfl
      | exact step_eql_bool rfl rfl rfl
      | exact step_neq_bool rfl rfl rfl
      | exact step_lss rfl rfl rfl
      | exact step_leq rfl rfl rfl
      | exact step_gtr rfl rfl rfl
      | exact step_geq rfl rfl rfl
      | exact step_add_in rfl rfl (by unfold fits; omega) rfl
      | exact step_sub_in rfl rfl (by unfold fits; omega) rfl
      | exact step_mul_in rfl rfl (by unfold fits; omega) rfl
      | exact step_quo_in rfl rfl (by omega) (by omega) (by omega) rfl
      | exact step_rem_in rfl rfl (by omega) (by omega) rfl
      )
    | (guard_target =~ Step _ _ (Oper.mk _ (Op.unOp _ _ _) _ _ _ _) _ _ _ _; first
      | exact step_neg_in rfl (by unfold fits; omega) rfl
      | exact step_not rfl rfl
      )
    | (guard_target =~ Step _ _ (Oper.mk _ (Op.pick _ _ _) _ _ _ _) _ _ _ _; first
      | exact step_pick_true rfl rfl rfl rfl
      | exact step_pick_false rfl rfl rfl rfl
      )
    | (guard_target =~ Step _ _ (Oper.mk _ (Op.extract _ _) _ _ _ _) _ _ _ _; first
      | exact step_extract_c rfl rfl rfl
      | exact step_extract_own rfl rfl rfl
      | exact step_extract_agg rfl rfl rfl
      )
    | (guard_target =~ Step _ _ (Oper.mk _ (Op.convert _ _ _) _ _ _ _) _ _ _ _; first
      | exact step_convert_in rfl (by unfold fits; omega) rfl
      )
    | (guard_target =~ Step _ _ (Oper.mk _ (Op.indexAddr _ _ _) _ _ _ _) _ _ _ _; first
      | exact step_index_als rfl rfl rfl rfl (by first | exact rfl | exact (Int.toNat_of_nonneg (by omega)).symm) (by first | omega | (simp only [List.length_map, List.length_set, List.length_take, List.length_drop, List.length_reverse, List.length_replicate, List.length_append, List.length_cons, List.length_nil]; omega)) rfl
      | exact step_index_root rfl rfl (by first | exact rfl | exact (Int.toNat_of_nonneg (by omega)).symm) (by first | omega | (simp only [List.length_map, List.length_set, List.length_take, List.length_drop, List.length_reverse, List.length_replicate, List.length_append, List.length_cons, List.length_nil]; omega)) rfl
      | exact step_index_sh rfl rfl (by first | exact rfl | exact (Int.toNat_of_nonneg (by omega)).symm) (by first | omega | (simp only [List.length_map, List.length_set, List.length_take, List.length_drop, List.length_reverse, List.length_replicate, List.length_append, List.length_cons, List.length_nil]; omega)) rfl
      | exact step_index_sub rfl rfl rfl rfl (by first | exact rfl | exact (Int.toNat_of_nonneg (by omega)).symm) (by omega) rfl
      )
    | (guard_target =~ Step _ _ (Oper.mk _ (Op.fieldAddr _ _ _) _ _ _ _) _ _ _ _; first
      | exact step_field_root rfl rfl
      | exact step_field rfl rfl
      | exact step_field_sh rfl rfl
      )
    | (guard_target =~ Step _ _ (Oper.mk _ (Op.load _ _) _ _ _ _) _ _ _ _; first
      | exact step_load rfl rfl rfl rfl (by first | exact rfl | exact ints_get (by first | omega | (simp only [List.length_map, List.length_set, List.length_take, List.length_drop, List.length_reverse, List.length_replicate, List.length_append, List.length_cons, List.length_nil]; omega)) | exact LL_get (by first | omega | (simp only [List.length_map, List.length_set, List.length_take, List.length_drop, List.length_reverse, List.length_replicate, List.length_append, List.length_cons, List.length_nil]; omega)) | exact LLs_get (by first | omega | (simp only [List.length_map, List.length_set, List.length_take, List.length_drop, List.length_reverse, List.length_replicate, List.length_append, List.length_cons, List.length_nil]; omega))) rfl
      | exact step_load_root rfl rfl
      | exact step_load_sh rfl (by first | exact rfl | exact ints_get (by first | omega | (simp only [List.length_map, List.length_set, List.length_take, List.length_drop, List.length_reverse, List.length_replicate, List.length_append, List.length_cons, List.length_nil]; omega)) | exact LL_get (by first | omega | (simp only [List.length_map, List.length_set, List.length_take, List.length_drop, List.length_reverse, List.length_replicate, List.length_append, List.length_cons, List.length_nil]; omega)) | exact LLs_get (by first | omega | (simp only [List.length_map, List.length_set, List.length_take, List.length_drop, List.length_reverse, List.length_replicate, List.length_append, List.length_cons, List.length_nil]; omega))) rfl
      | exact step_loads rfl rfl rfl rfl (by first | exact Nat.le_of_ble_eq_true rfl | simp) (by decide) rfl
      | exact step_loads_root (by exact rfl) (by exact rfl) (by decide) rfl
      | exact step_loads_sh rfl (by first | exact Nat.le_of_ble_eq_true rfl | simp) rfl
      )
    | (guard_target =~ Step _ _ (Oper.mk _ (Op.store _ _ _) _ _ _ _) _ _ _ _; first
      | exact step_store_lit rfl rfl rfl rfl rfl rfl rfl
      | exact step_store_ints rfl rfl rfl rfl rfl (by first | omega | (simp only [List.length_map, List.length_set, List.length_take, List.length_drop, List.length_reverse, List.length_replicate, List.length_append, List.length_cons, List.length_nil]; omega))
      | exact step_store_give_ptr (by first | exact .one (by first | exact .lit rfl | exact .nil | exact .own rfl | exact .als rfl rfl | exact .ptr rfl rfl | exact .part rfl rfl rfl | exact .c rfl) | exact .agg rfl rfl | exact .parts rfl (.cons (by first | exact .c | exact .part rfl rfl) .nil) | exact .parts rfl (.cons (by first | exact .c | exact .part rfl rfl) (.cons (by first | exact .c | exact .part rfl rfl) .nil)) | exact .parts rfl (.cons (by first | exact .c | exact .part rfl rfl) (.cons (by first | exact .c | exact .part rfl rfl) (.cons (by first | exact .c | exact .part rfl rfl) .nil))) | exact .parts rfl (.cons (by first | exact .c | exact .part rfl rfl) (.cons (by first | exact .c | exact .part rfl rfl) (.cons (by first | exact .c | exact .part rfl rfl) (.cons (by first | exact .c | exact .part rfl rfl) .nil))))) (by exact rfl) (by exact rfl) (by exact rfl) (by exact rfl) (by exact rfl) (by first | exact Nat.le_of_ble_eq_true rfl | simp) (by exact List.cons_ne_nil _ _)
      | exact step_store_give_root (by first | exact .one (by first | exact .lit rfl | exact .nil | exact .own rfl | exact .als rfl rfl | exact .ptr rfl rfl | exact .part rfl rfl rfl | exact .c rfl) | exact .agg rfl rfl | exact .parts rfl (.cons (by first | exact .c | exact .part rfl rfl) .nil) | exact .parts rfl (.cons (by first | exact .c | exact .part rfl rfl) (.cons (by first | exact .c | exact .part rfl rfl) .nil)) | exact .parts rfl (.cons (by first | exact .c | exact .part rfl rfl) (.cons (by first | exact .c | exact .part rfl rfl) (.cons (by first | exact .c | exact .part rfl rfl) .nil))) | exact .parts rfl (.cons (by first | exact .c | exact .part rfl rfl) (.cons (by first | exact .c | exact .part rfl rfl) (.cons (by first | exact .c | exact .part rfl rfl) (.cons (by first | exact .c | exact .part rfl rfl) .nil))))) (by exact rfl) (by exact rfl) (by first | exact Nat.le_of_ble_eq_true rfl | simp) (by exact List.cons_ne_nil _ _)
      )
    | (guard_target =~ Step _ _ (Oper.mk _ (Op.box _ _) _ _ _ _) _ _ _ _; first
      | exact step_box_agg rfl rfl rfl
      | exact step_box (by first | exact .lit rfl | exact .nil | exact .own rfl | exact .als rfl rfl | exact .ptr rfl rfl | exact .part rfl rfl rfl | exact .c rfl) rfl
      )
    | (guard_target =~ Step _ _ (Oper.mk _ (Op.alloc _) _ _ _ _) _ _ _ _; first
      | exact step_alloc rfl
      )
    | (guard_target =~ Step _ _ (Oper.mk _ (Op.makeSlice _ _ _) _ _ _ _) _ _ _ _; first
      | exact step_make_ints rfl rfl rfl (by omega) (by omega) rfl
      | exact step_make rfl rfl (by first | exact rfl | exact (Int.toNat_of_nonneg (by omega)).symm) (by first | exact rfl | exact (Int.toNat_of_nonneg (by omega)).symm) (by omega) rfl
      )
    | (guard_target =~ Step _ _ (Oper.mk _ (Op.buildSlice _ _ _) _ _ _ _) _ _ _ _; first
      | exact step_slice_lit (by first | exact .nil | exact (.cons (by first | exact .lit rfl | exact .nil | exact .own rfl | exact .als rfl rfl | exact .ptr rfl rfl | exact .part rfl rfl rfl | exact .c rfl) .nil) | exact (.cons (by first | exact .lit rfl | exact .nil | exact .own rfl | exact .als rfl rfl | exact .ptr rfl rfl | exact .part rfl rfl rfl | exact .c rfl) (.cons (by first | exact .lit rfl | exact .nil | exact .own rfl | exact .als rfl rfl | exact .ptr rfl rfl | exact .part rfl rfl rfl | exact .c rfl) .nil)) | exact (.cons (by first | exact .lit rfl | exact .nil | exact .own rfl | exact .als rfl rfl | exact .ptr rfl rfl | exact .part rfl rfl rfl | exact .c rfl) (.cons (by first | exact .lit rfl | exact .nil | exact .own rfl | exact .als rfl rfl | exact .ptr rfl rfl | exact .part rfl rfl rfl | exact .c rfl) (.cons (by first | exact .lit rfl | exact .nil | exact .own rfl | exact .als rfl rfl | exact .ptr rfl rfl | exact .part rfl rfl rfl | exact .c rfl) .nil))) | exact (.cons (by first | exact .lit rfl | exact .nil | exact .own rfl | exact .als rfl rfl | exact .ptr rfl rfl | exact .part rfl rfl rfl | exact .c rfl) (.cons (by first | exact .lit rfl | exact .nil | exact .own rfl | exact .als rfl rfl | exact .ptr rfl rfl | exact .part rfl rfl rfl | exact .c rfl) (.cons (by first | exact .lit rfl | exact .nil | exact .own rfl | exact .als rfl rfl | exact .ptr rfl rfl | exact .part rfl rfl rfl | exact .c rfl) (.cons (by first | exact .lit rfl | exact .nil | exact .own rfl | exact .als rfl rfl | exact .ptr rfl rfl | exact .part rfl rfl rfl | exact .c rfl) .nil))))) (by exact rfl) (by decide) rfl
      )
    ) : Step P n o nid st rd up := h
/-- How an operand is read, and how it is handed over: how that is found. -/
theorem shows_any {x : Operand} {rd : List Nat} {v : V} (h : Shows st x rd v := by first | exact .lit rfl rfl | exact .c rfl | exact .view (.als rfl rfl rfl) (by first | rfl | exact erases_ints _ | exact erases_lits _ | exact erases_LL _ | exact erases_LLs _ | (simp [D.erases, D.erase, erases_lits, erases_ints, erases_LL, erases_LLs]; done)) | exact .view (.root rfl) (by first | rfl | exact erases_ints _ | exact erases_lits _ | exact erases_LL _ | exact erases_LLs _ | (simp [D.erases, D.erase, erases_lits, erases_ints, erases_LL, erases_LLs]; done)) | exact .view (.sub rfl rfl rfl) (by first | rfl | exact erases_ints _ | exact erases_lits _ | exact erases_LL _ | exact erases_LLs _ | (simp [D.erases, D.erase, erases_lits, erases_ints, erases_LL, erases_LLs]; done)) | exact .view .nil (by first | rfl | exact erases_ints _ | exact erases_lits _ | exact erases_LL _ | exact erases_LLs _ | (simp [D.erases, D.erase, erases_lits, erases_ints, erases_LL, erases_LLs]; done)) | exact .ptr rfl rfl (by first | rfl | exact erases_ints _ | exact erases_lits _ | exact erases_LL _ | exact erases_LLs _ | (simp [D.erases, D.erase, erases_lits, erases_ints, erases_LL, erases_LLs]; done)) | exact .root rfl (by first | rfl | exact erases_ints _ | exact erases_lits _ | exact erases_LL _ | exact erases_LLs _ | (simp [D.erases, D.erase, erases_lits, erases_ints, erases_LL, erases_LLs]; done)) | exact .sptr rfl) : Shows st x rd v := h
theorem aggs_any {xs : List AV} {rd : List Nat} {ds : List D} (h : ShowsAVs st xs rd ds := by first | exact (.cons (by first | exact .c | exact .raw (by first | rfl | exact erases_ints _ | exact erases_lits _ | exact erases_LL _ | exact erases_LLs _ | (simp [D.erases, D.erase, erases_lits, erases_ints, erases_LL, erases_LLs]; done)) | exact .als rfl rfl (by first | rfl | exact erases_ints _ | exact erases_lits _ | exact erases_LL _ | exact erases_LLs _ | (simp [D.erases, D.erase, erases_lits, erases_ints, erases_LL, erases_LLs]; done))) .nil) | exact (.cons (by first | exact .c | exact .raw (by first | rfl | exact erases_ints _ | exact erases_lits _ | exact erases_LL _ | exact erases_LLs _ | (simp [D.erases, D.erase, erases_lits, erases_ints, erases_LL, erases_LLs]; done)) | exact .als rfl rfl (by first | rfl | exact erases_ints _ | exact erases_lits _ | exact erases_LL _ | exact erases_LLs _ | (simp [D.erases, D.erase, erases_lits, erases_ints, erases_LL, erases_LLs]; done))) (.cons (by first | exact .c | exact .raw (by first | rfl | exact erases_ints _ | exact erases_lits _ | exact erases_LL _ | exact erases_LLs _ | (simp [D.erases, D.erase, erases_lits, erases_ints, erases_LL, erases_LLs]; done)) | exact .als rfl rfl (by first | rfl | exact erases_ints _ | exact erases_lits _ | exact erases_LL _ | exact erases_LLs _ | (simp [D.erases, D.erase, erases_lits, erases_ints, erases_LL, erases_LLs]; done))) .nil)) | exact (.cons (by first | exact .c | exact .raw (by first | rfl | exact erases_ints _ | exact erases_lits _ | exact erases_LL _ | exact erases_LLs _ | (simp [D.erases, D.erase, erases_lits, erases_ints, erases_LL, erases_LLs]; done)) | exact .als rfl rfl (by first | rfl | exact erases_ints _ | exact erases_lits _ | exact erases_LL _ | exact erases_LLs _ | (simp [D.erases, D.erase, erases_lits, erases_ints, erases_LL, erases_LLs]; done))) (.cons (by first | exact .c | exact .raw (by first | rfl | exact erases_ints _ | exact erases_lits _ | exact erases_LL _ | exact erases_LLs _ | (simp [D.erases, D.erase, erases_lits, erases_ints, erases_LL, erases_LLs]; done)) | exact .als rfl rfl (by first | rfl | exact erases_ints _ | exact erases_lits _ | exact erases_LL _ | exact erases_LLs _ | (simp [D.erases, D.erase, erases_lits, erases_ints, erases_LL, erases_LLs]; done))) (.cons (by first | exact .c | exact .raw (by first | rfl | exact erases_ints _ | exact erases_lits _ | exact erases_LL _ | exact erases_LLs _ | (simp [D.erases, D.erase, erases_lits, erases_ints, erases_LL, erases_LLs]; done)) | exact .als rfl rfl (by first | rfl | exact erases_ints _ | exact erases_lits _ | exact erases_LL _ | exact erases_LLs _ | (simp [D.erases, D.erase, erases_lits, erases_ints, erases_LL, erases_LLs]; done))) .nil))) | exact (.cons (by first | exact .c | exact .raw (by first | rfl | exact erases_ints _ | exact erases_lits _ | exact erases_LL _ | exact erases_LLs _ | (simp [D.erases, D.erase, erases_lits, erases_ints, erases_LL, erases_LLs]; done)) | exact .als rfl rfl (by first | rfl | exact erases_ints _ | exact erases_lits _ | exact erases_LL _ | exact erases_LLs _ | (simp [D.erases, D.erase, erases_lits, erases_ints, erases_LL, erases_LLs]; done))) (.cons (by first | exact .c | exact .raw (by first | rfl | exact erases_ints _ | exact erases_lits _ | exact erases_LL _ | exact erases_LLs _ | (simp [D.erases, D.erase, erases_lits, erases_ints, erases_LL, erases_LLs]; done)) | exact .als rfl rfl (by first | rfl | exact erases_ints _ | exact erases_lits _ | exact erases_LL _ | exact erases_LLs _ | (simp [D.erases, D.erase, erases_lits, erases_ints, erases_LL, erases_LLs]; done))) (.cons (by first | exact .c | exact .raw (by first | rfl | exact erases_ints _ | exact erases_lits _ | exact erases_LL _ | exact erases_LLs _ | (simp [D.erases, D.erase, erases_lits, erases_ints, erases_LL, erases_LLs]; done)) | exact .als rfl rfl (by first | rfl | exact erases_ints _ | exact erases_lits _ | exact erases_LL _ | exact erases_LLs _ | (simp [D.erases, D.erase, erases_lits, erases_ints, erases_LL, erases_LLs]; done))) (.cons (by first | exact .c | exact .raw (by first | rfl | exact erases_ints _ | exact erases_lits _ | exact erases_LL _ | exact erases_LLs _ | (simp [D.erases, D.erase, erases_lits, erases_ints, erases_LL, erases_LLs]; done)) | exact .als rfl rfl (by first | rfl | exact erases_ints _ | exact erases_lits _ | exact erases_LL _ | exact erases_LLs _ | (simp [D.erases, D.erase, erases_lits, erases_ints, erases_LL, erases_LLs]; done))) .nil)))) | exact (.cons (by first | exact .c | exact .raw (by first | rfl | exact erases_ints _ | exact erases_lits _ | exact erases_LL _ | exact erases_LLs _ | (simp [D.erases, D.erase, erases_lits, erases_ints, erases_LL, erases_LLs]; done)) | exact .als rfl rfl (by first | rfl | exact erases_ints _ | exact erases_lits _ | exact erases_LL _ | exact erases_LLs _ | (simp [D.erases, D.erase, erases_lits, erases_ints, erases_LL, erases_LLs]; done))) (.cons (by first | exact .c | exact .raw (by first | rfl | exact erases_ints _ | exact erases_lits _ | exact erases_LL _ | exact erases_LLs _ | (simp [D.erases, D.erase, erases_lits, erases_ints, erases_LL, erases_LLs]; done)) | exact .als rfl rfl (by first | rfl | exact erases_ints _ | exact erases_lits _ | exact erases_LL _ | exact erases_LLs _ | (simp [D.erases, D.erase, erases_lits, erases_ints, erases_LL, erases_LLs]; done))) (.cons (by first | exact .c | exact .raw (by first | rfl | exact erases_ints _ | exact erases_lits _ | exact erases_LL _ | exact erases_LLs _ | (simp [D.erases, D.erase, erases_lits, erases_ints, erases_LL, erases_LLs]; done)) | exact .als rfl rfl (by first | rfl | exact erases_ints _ | exact erases_lits _ | exact erases_LL _ | exact erases_LLs _ | (simp [D.erases, D.erase, erases_lits, erases_ints, erases_LL, erases_LLs]; done))) (.cons (by first | exact .c | exact .raw (by first | rfl | exact erases_ints _ | exact erases_lits _ | exact erases_LL _ | exact erases_LLs _ | (simp [D.erases, D.erase, erases_lits, erases_ints, erases_LL, erases_LLs]; done)) | exact .als rfl rfl (by first | rfl | exact erases_ints _ | exact erases_lits _ | exact erases_LL _ | exact erases_LLs _ | (simp [D.erases, D.erase, erases_lits, erases_ints, erases_LL, erases_LLs]; done))) (.cons (by first | exact .c | exact .raw (by first | rfl | exact erases_ints _ | exact erases_lits _ | exact erases_LL _ | exact erases_LLs _ | (simp [D.erases, D.erase, erases_lits, erases_ints, erases_LL, erases_LLs]; done)) | exact .als rfl rfl (by first | rfl | exact erases_ints _ | exact erases_lits _ | exact erases_LL _ | exact erases_LLs _ | (simp [D.erases, D.erase, erases_lits, erases_ints, erases_LL, erases_LLs]; done))) .nil))))) | exact (.cons (by first | exact .c | exact .raw (by first | rfl | exact erases_ints _ | exact erases_lits _ | exact erases_LL _ | exact erases_LLs _ | (simp [D.erases, D.erase, erases_lits, erases_ints, erases_LL, erases_LLs]; done)) | exact .als rfl rfl (by first | rfl | exact erases_ints _ | exact erases_lits _ | exact erases_LL _ | exact erases_LLs _ | (simp [D.erases, D.erase, erases_lits, erases_ints, erases_LL, erases_LLs]; done))) (.cons (by first | exact .c | exact .raw (by first | rfl | exact erases_ints _ | exact erases_lits _ | exact erases_LL _ | exact erases_LLs _ | (simp [D.erases, D.erase, erases_lits, erases_ints, erases_LL, erases_LLs]; done)) | exact .als rfl rfl (by first | rfl | exact erases_ints _ | exact erases_lits _ | exact erases_LL _ | exact erases_LLs _ | (simp [D.erases, D.erase, erases_lits, erases_ints, erases_LL, erases_LLs]; done))) (.cons (by first | exact .c | exact .raw (by first | rfl | exact erases_ints _ | exact erases_lits _ | exact erases_LL _ | exact erases_LLs _ | (simp [D.erases, D.erase, erases_lits, erases_ints, erases_LL, erases_LLs]; done)) | exact .als rfl rfl (by first | rfl | exact erases_ints _ | exact erases_lits _ | exact erases_LL _ | exact erases_LLs _ | (simp [D.erases, D.erase, erases_lits, erases_ints, erases_LL, erases_LLs]; done))) (.cons (by first | exact .c | exact .raw (by first | rfl | exact erases_ints _ | exact erases_lits _ | exact erases_LL _ | exact erases_LLs _ | (simp [D.erases, D.erase, erases_lits, erases_ints, erases_LL, erases_LLs]; done)) | exact .als rfl rfl (by first | rfl | exact erases_ints _ | exact erases_lits _ | exact erases_LL _ | exact erases_LLs _ | (simp [D.erases, D.erase, erases_lits, erases_ints, erases_LL, erases_LLs]; done))) (.cons (by first | exact .c | exact .raw (by first | rfl | exact erases_ints _ | exact erases_lits _ | exact erases_LL _ | exact erases_LLs _ | (simp [D.erases, D.erase, erases_lits, erases_ints, erases_LL, erases_LLs]; done)) | exact .als rfl rfl (by first | rfl | exact erases_ints _ | exact erases_lits _ | exact erases_LL _ | exact erases_LLs _ | (simp [D.erases, D.erase, erases_lits, erases_ints, erases_LL, erases_LLs]; done))) (.cons (by first | exact .c | exact .raw (by first | rfl | exact erases_ints _ | exact erases_lits _ | exact erases_LL _ | exact erases_LLs _ | (simp [D.erases, D.erase, erases_lits, erases_ints, erases_LL, erases_LLs]; done)) | exact .als rfl rfl (by first | rfl | exact erases_ints _ | exact erases_lits _ | exact erases_LL _ | exact erases_LLs _ | (simp [D.erases, D.erase, erases_lits, erases_ints, erases_LL, erases_LLs]; done))) .nil))))))) : ShowsAVs st xs rd ds := h
theorem give_any {x : Operand} {rd : List Nat} {d : D} {up : List (Nat × AV)} (h : Give st x rd d up := by first | exact .lit rfl | exact .nil | exact .own rfl | exact .als rfl rfl | exact .ptr rfl rfl | exact .part rfl rfl rfl | exact .c rfl) : Give st x rd d up := h
end
end Go.Pv
