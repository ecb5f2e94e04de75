/- Calls that write into their first argument and hand it back; whether a slice is nil. No condition. -/
import Derived.Test.YtinenidbgmddhaaGreatUPvM
import Derived.Laws.Cover3
set_option linter.unusedVariables false
set_option linter.unusedSimpArgs false
namespace Go.Pv
open Go.RowKit
section
variable {P : Program} {n : NN} {st : Nat → AV} {nx nid : Nat}
theorem Then.next {K : (Nat → AV) → Nat → Prop} {Q : Exit → (Nat → AV) → Nat → Prop} {s : Nat → AV} {k : Nat} (h : K s k) : Then K Q .normal s k := h
theorem InBlock.next {Q : Exit → (Nat → AV) → Nat → Prop} {id : Nat} {s : Nat → AV} {k : Nat} (h : Q .normal s k) : InBlock id Q .normal s k := h
abbrev ints (l : List Int) : List D := l.map fun x => D.lit (.int .i64 x)
theorem map_get {α : Type} {g : α → D} {L : List α} {i : Nat} (d0 : α) (h : i < L.length) : (L.map g)[i]? = some (g (L.getD i d0)) := by
  simp [List.getD, h]
theorem ints_get {l : List Int} {i : Nat} (h : i < l.length) : (l.map fun x => D.lit (.int .i64 x))[i]? = some (.lit (.int .i64 (l.getD i 0))) := map_get 0 h
theorem erases_ints (l : List Int) : D.erases (ints l) = ints l := by rw [D.erases_eq]; simp [D.erase]
theorem solids_ints (l : List Int) : D.solids (ints l) = true := by
  unfold ints
  induction l with
  | nil => rfl
  | cons a l ih => simp only [List.map_cons, D.solids, D.solid, ih, Bool.and_self]
theorem plain_ints (l : List Int) : ∀ d ∈ ints l, d.plain = true := by simp [D.plain]
theorem step_len_map {α : Type} {g : α → D} {L : List α} {d : Nat} {x : Operand} {T : TypeId} {sz' : Nat} {rd : List Nat} {ty pos aft gd} [SliceTy P T sz'] (hv : View st x rd 1 (L.map g)) (hd : n d = true) :
    Step P n ⟨some d, .call ⟨.builtin .len, #[x], #[T]⟩, ty, pos, aft, gd⟩ nid st rd [(d, .c (.lit (.int .i64 (L.length : Int))))] := by
  have := step_len (P := P) (n := n) (nid := nid) (ty := ty) (pos := pos) (aft := aft) (g := gd) (d := d) (T := T) (sz' := sz') hv L.length (by simp) (by decide) hd
  exact this
theorem step_store_ints {t x id off : Nat} {path : List Nat} {xv : Operand} {v : Int} {T : TypeId} {dd d1 : D} {l : List Int} {ty pos aft g} [OneTy P T] (h : st t = .ptr x id path off) (hx : st x = .own id dd) (hn' : dd.nav path = some d1) (hk : d1.kids = some (ints l))
    (hv : Lit st xv (.int .i64 v)) (hlt : off < l.length) :
    Step P n ⟨none, .store T (.tmp t) xv, ty, pos, aft, g⟩ nid st (t :: x :: rdOf xv) [(x, .own id (dd.put path (d1.withKids (ints (l.set off v)))))] := by
  have := step_store_lit (P := P) (n := n) (nid := nid) (T := T) (ty := ty) (pos := pos) (aft := aft) (g := g) h hx hn' hk (ints_get hlt) hv rfl
  rwa [show (ints l).set off (.lit (.int .i64 v)) = ints (l.set off v) by simp [ints, List.map_set]] at this
theorem replicate_ints (m : Nat) : List.replicate m (D.lit (.int .i64 0)) = ints (List.replicate m 0) := by simp [ints]
theorem step_make_ints {d : Nat} {T : TypeId} {x y : Operand} {k k' : IntKind} {i i' : Int} {ty pos aft g} [hT : MakeTy P T (.lit (.int .i64 0))] (hx : Lit st x (.int k i)) (hy : Lit st y (.int k' i')) (he : i' = i) (h0 : 0 ≤ i) (hm : i ≤ 1099511627776) (hd : n d = true) :
    Step P n ⟨some d, .makeSlice T x y, ty, pos, aft, g⟩ nid st (rdOf x ++ rdOf y) [(d, .own nid (.sl true 1 (ints (List.replicate i.toNat 0))))] := by
  rw [← replicate_ints]
  exact step_make hx hy (Int.toNat_of_nonneg h0).symm (by rw [he]; exact (Int.toNat_of_nonneg h0).symm) (by omega) hd
theorem own_ints {id sz : Nat} {l l' : List Int} (h : l = l') : AV.own id (.sl true sz (ints l)) = AV.own id (.sl true sz (ints l')) := by rw [h]
theorem c_ints {o : Bool} {sz : Nat} {l l' : List Int} (h : l = l') : AV.c (.sl o sz (ints l)) = AV.c (.sl o sz (ints l')) := by rw [h]
theorem fill_step : ∀ (l : List Int) (j : Nat), j < l.length → (l.take j ++ List.replicate (l.length - j) 0).set j (l.getD j 0) = l.take (j + 1) ++ List.replicate (l.length - (j + 1)) 0
  | [], _, h => by simp at h
  | a :: l, 0, _ => by simp [List.replicate_succ]
  | a :: l, j + 1, h => by
    have := fill_step l j (by simpa using h)
    simpa using this
theorem list_ext : ∀ {a b : List Int}, a.length = b.length → (∀ i, i < a.length → a.getD i 0 = b.getD i 0) → a = b
  | [], [], _, _ => rfl
  | [], _ :: _, h, _ => by simp at h
  | _ :: _, [], h, _ => by simp at h
  | x :: a, y :: b, h, e => by
    have h0 : x = y := by simpa using e 0 (by simp)
    rw [h0, list_ext (a := a) (b := b) (by simpa using h) fun i hi => by simpa using e (i + 1) (by simpa using hi)]
abbrev LL (L : List (List Int)) : List D := L.map fun l => D.sl true 1 (ints l)
abbrev LLs (L : List (List Int)) : List D := L.map fun l => D.sl false 1 (ints l)
theorem erases_LL (L : List (List Int)) : D.erases (LL L) = LLs L := by
  rw [D.erases_eq, List.map_map]
  refine List.map_congr_left fun l _ => ?_
  simp only [Function.comp_apply, D.erase, erases_ints]
theorem erases_LLs (L : List (List Int)) : D.erases (LLs L) = LLs L := by
  rw [D.erases_eq, List.map_map]
  refine List.map_congr_left fun l _ => ?_
  simp only [Function.comp_apply, D.erase, erases_ints]
theorem solids_LL (L : List (List Int)) : D.solids (LL L) = true := by
  unfold LL
  induction L with
  | nil => rfl
  | cons a l ih => simp only [List.map_cons, D.solids, D.solid, solids_ints, ih, Bool.and_self]
theorem LL_get {L : List (List Int)} {i : Nat} (h : i < L.length) : (L.map fun l => D.sl true 1 (ints l))[i]? = some (.sl true 1 (ints (L.getD i []))) := map_get [] h
theorem LLs_get {L : List (List Int)} {i : Nat} (h : i < L.length) : (L.map fun l => D.sl false 1 (ints l))[i]? = some (.sl false 1 (ints (L.getD i []))) := map_get [] h
theorem own_LL {id sz : Nat} {l l' : List (List Int)} (h : l = l') : AV.own id (.sl true sz (LL l)) = AV.own id (.sl true sz (LL l')) := by rw [h]
section
variable {d : Nat} {s x : Operand} {T : TypeId} {rd rd2 : List Nat} {up up2 : List (Nat × AV)} {ty : TypeId} {pos : String} {aft : Array Edge} {g : Option (Nat × Bool)}
theorem step_append_int1 {l : List Int} {v : Int} [hT : SliceTy P T 1] (h : Give st s rd (.sl true 1 (ints l)) up) (hv : View (puts st up) x rd2 1 [.lit (.int .i64 v)]) (hb : l.length ≤ 1099511627000) (hd : n d = true) :
    Step P n ⟨some d, .call ⟨.builtin .append, #[s, x], #[T, T]⟩, ty, pos, aft, g⟩ nid st (rd ++ rd2) (up ++ [(d, .own nid (.sl true 1 (ints (l ++ [v]))))]) := by
  have := step_append_view (P := P) (n := n) (nid := nid) (d := d) (T := T) (ty := ty) (pos := pos) (aft := aft) (g := g) h hv (by simp [D.plain]) (by simp; omega) hd
  rwa [show ints l ++ [.lit (.int .i64 v)] = ints (l ++ [v]) by simp [ints]] at this
theorem step_append_ints_sh {t : Nat} {l m : List Int} [hT : SliceTy P T 1] (h : Give st s rd (.sl true 1 (ints l)) up) (hv : puts st up t = .c (.sl false 1 (ints m))) (hb : l.length + m.length ≤ 1099511627776) (hd : n d = true) :
    Step P n ⟨some d, .call ⟨.builtin .append, #[s, .tmp t], #[T, T]⟩, ty, pos, aft, g⟩ nid st (rd ++ [t]) (up ++ [(d, .own nid (.sl true 1 (ints (l ++ m))))]) := by
  have := step_append_sh (P := P) (n := n) (nid := nid) (d := d) (T := T) (ty := ty) (pos := pos) (aft := aft) (g := g) h hv (by simpa using hb) hd
  rwa [show ints l ++ ints m = ints (l ++ m) by simp [ints]] at this
theorem step_append_sh0 {t : Nat} {sz : Nat} {ds : List D} [hT : SliceTy P T sz] (h : Give st s rd (.sl true sz []) up) (hv : puts st up t = .c (.sl false sz ds)) (hb : ds.length ≤ 1099511627776) (hd : n d = true) :
    Step P n ⟨some d, .call ⟨.builtin .append, #[s, .tmp t], #[T, T]⟩, ty, pos, aft, g⟩ nid st (rd ++ [t]) (up ++ [(d, .own nid (.sl true sz ds))]) := by
  have := step_append_sh (P := P) (n := n) (nid := nid) (d := d) (T := T) (ty := ty) (pos := pos) (aft := aft) (g := g) h hv (by simpa using hb) hd
  simpa only [List.nil_append] using this
theorem step_append_give0 {sz : Nat} {ds : List D} [hT : SliceTy P T sz] (h : Give st s rd (.sl true sz []) up) (hv : Give (puts st up) x rd2 (.sl true sz ds) up2) (hb : ds.length ≤ 1099511627776) (hd : n d = true) :
    Step P n ⟨some d, .call ⟨.builtin .append, #[s, x], #[T, T]⟩, ty, pos, aft, g⟩ nid st (rd ++ rd2) ((up ++ up2) ++ [(d, .own nid (.sl true sz ds))]) := by
  have := step_append_give (P := P) (n := n) (nid := nid) (d := d) (T := T) (ty := ty) (pos := pos) (aft := aft) (g := g) h hv (by simpa using hb) hd
  simpa only [List.nil_append] using this
theorem step_append_ints_view {l m : List Int} [hT : SliceTy P T 1] (h : Give st s rd (.sl true 1 (ints l)) up) (hv : View (puts st up) x rd2 1 (ints m)) (hb : l.length + m.length ≤ 1099511627776) (hd : n d = true) :
    Step P n ⟨some d, .call ⟨.builtin .append, #[s, x], #[T, T]⟩, ty, pos, aft, g⟩ nid st (rd ++ rd2) (up ++ [(d, .own nid (.sl true 1 (ints (l ++ m))))]) := by
  have := step_append_view (P := P) (n := n) (nid := nid) (d := d) (T := T) (ty := ty) (pos := pos) (aft := aft) (g := g) h hv (plain_ints m) (by simpa using hb) hd
  rwa [show ints l ++ ints m = ints (l ++ m) by simp [ints]] at this
theorem step_append_LL1 {L : List (List Int)} {l : List Int} [hT : SliceTy P T 1] (h : Give st s rd (.sl true 1 (LL L)) up) (hv : Give (puts st up) x rd2 (.sl true 1 [.sl true 1 (ints l)]) up2) (hb : L.length ≤ 1099511627000) (hd : n d = true) :
    Step P n ⟨some d, .call ⟨.builtin .append, #[s, x], #[T, T]⟩, ty, pos, aft, g⟩ nid st (rd ++ rd2) ((up ++ up2) ++ [(d, .own nid (.sl true 1 (LL (L ++ [l]))))]) := by
  have := step_append_give (P := P) (n := n) (nid := nid) (d := d) (T := T) (ty := ty) (pos := pos) (aft := aft) (g := g) h hv (by simp; omega) hd
  rwa [show LL L ++ [.sl true 1 (ints l)] = LL (L ++ [l]) by simp [LL]] at this
end
class BoolTy (P : Program) (T : TypeId) : Prop where
  out : P.underlying T = some .bool
theorem run_equal_bool {T : TypeId} [h : BoolTy P T] (a b : Bool) (w : World) : (Op.equal T (.bool a) (.bool b)).run P w = .ok (a == b) w := run_equalIn_bool w 9999 T a b h.out
theorem step_eql_bool {d : Nat} {T T' : TypeId} {x y : Operand} {a b : Bool} {ty pos aft g} [BoolTy P T] (hx : Lit st x (.bool a)) (hy : Lit st y (.bool b)) (hd : n d = true) : Step P n ⟨some d, .binOp .eql T x y T', ty, pos, aft, g⟩ nid st (rdOf x ++ rdOf y) [(d, .c (.lit (.bool (decide (a = b)))))] :=
  step_bin hx hy rfl (fun w => by simp [eqGuard_bool, binOp, run_equal_bool]; rfl) hd
theorem step_neq_bool {d : Nat} {T T' : TypeId} {x y : Operand} {a b : Bool} {ty pos aft g} [BoolTy P T] (hx : Lit st x (.bool a)) (hy : Lit st y (.bool b)) (hd : n d = true) : Step P n ⟨some d, .binOp .neq T x y T', ty, pos, aft, g⟩ nid st (rdOf x ++ rdOf y) [(d, .c (.lit (.bool (decide (a ≠ b)))))] :=
  step_bin hx hy rfl (fun w => by simp [eqGuard_bool, binOp, run_equal_bool, bne]; rfl) hd
theorem flat_ints (l : List Int) : (l.map fun x => [D.lit (.int .i64 x)]).flatten = ints l := by
  induction l with
  | nil => rfl
  | cons a l ih => rw [List.map_cons, List.flatten_cons, ih]; rfl
theorem ty_ints {t e ds} (hu : P.underlying t = some (.slice e)) (he : P.underlying e = some (.int .i64)) (hc : P.cellsOf e = 1) (h : Ty P t ds) :
    ∃ (l : List Int), ds = [.sl false 1 (ints l)] ∧ l.length ≤ maxLen ∧ (∀ x ∈ l, -9223372036854775808 ≤ x ∧ x ≤ 9223372036854775807) := by
  obtain ⟨parts, ee, h3, h4⟩ := ty_slice hu h
  subst ee
  obtain ⟨l, rfl, hl⟩ := tyL_map (fun x : Int => [D.lit (.int .i64 x)]) (fun x => -9223372036854775808 ≤ x ∧ x ≤ 9223372036854775807) h3 (fun p hp => by
    obtain ⟨n, e, hn⟩ := ty_int he hp
    exact ⟨n, e, wf_i64 hn⟩)
  rw [hc, flat_ints]
  exact ⟨l, rfl, by simpa using h4, hl⟩
theorem sees_agg {t ts fs as} (hu : P.underlying t = some (.struct fs)) (h : Sees P (t :: ts) as) : ∃ ds as', as = .sh (.agg ds) :: as' ∧ TyF P (fs.toList.map (·.type)) ds ∧ Sees P ts as' := by
  cases h with
  | one h1 => exact absurd hu (h1 _)
  | agg h1 h2 h3 => rw [hu] at h1; cases h1; exact ⟨_, _, rfl, ty_struct hu h2, h3⟩
end
end Go.Pv
namespace Go.Pv
open Go.RowKit
section
variable {P : Program} {n : NN} {st : Nat → AV} {nx nid : Nat} {dr : Bool} {ops l : List Oper} {pre : List (List Nat × List Nat)} {Q : (Nat → AV) → Nat → Prop}
def RunU (dr : Bool) (P : Program) (n : NN) (ops l : List Oper) (st : Nat → AV) (nx : Nat) (pre : List (List Nat × List Nat)) (Q : (Nat → AV) → Nat → Prop) : Prop :=
  if dr = true then RunD P n ops l st nx pre Q else RunL P n ops.toArray l st nx Q
theorem RunL.more {ops : Array Oper} (h : RunL P n ops l st (nx + 1) Q) : RunL P n ops l st nx Q :=
  fun f a w Q' hn hr hQ => h f a w Q' hn (hr.weaken fun i hi => by omega) hQ
theorem RunU.nilL (h : Q st nx) : RunU false P n ops [] st nx pre Q := RunL.nil h
theorem RunU.nilD (hp : pairsOk ops pre.reverse = true) (h : Q st nx) : RunU true P n ops [] st nx pre Q := RunD.nil hp h
theorem RunU.cons {d op ty pos aft rd up} (hs : Step P n ⟨d, op, ty, pos, aft, none⟩ nx st rd up) (h : RunU dr P n ops l (puts st up) (nx + 1) ((rdE rd, fpE (up.map Prod.fst)) :: pre) Q) : RunU dr P n ops (⟨d, op, ty, pos, aft, none⟩ :: l) st nx pre Q := by
  cases dr
  · exact RunL.cons hs h
  · exact RunD.cons hs h
theorem RunU.consX {d op ty pos aft rd up} (hs : StepX P n ⟨d, op, ty, pos, aft, none⟩ nx st rd up) (h : RunU dr P n ops l (puts st up) (nx + 1) ((rdE rd, fpE (up.map Prod.fst)) :: pre) Q) : RunU dr P n ops (⟨d, op, ty, pos, aft, none⟩ :: l) st nx pre Q := by
  cases dr
  · exact RunL.consX hs h
  · exact RunD.consX hs h
theorem RunU.consW {d op ty pos aft wk rd up} (hs : StepW P n ⟨d, op, ty, pos, aft, none⟩ nx st wk rd up) (h : RunU dr P n ops l (puts st up) (nx + 1) ((wkE wk ++ rdE rd, fpE (up.map Prod.fst)) :: pre) Q) : RunU dr P n ops (⟨d, op, ty, pos, aft, none⟩ :: l) st nx pre Q := by
  cases dr
  · exact RunL.cons (rd := rd ++ wk) (fun X st' h1 hX => hs X st' (fun s h => h1 s (List.mem_append_left _ h)) (fun s h => by rw [h1 s (List.mem_append_right _ h)]) hX) h
  · exact RunD.consW hs h
theorem RunU.consK {d op ty pos aft rd up0 x v up} (hs : Step P n ⟨d, op, ty, pos, aft, none⟩ nx st rd up0) (he : up0 = (x, v) :: up) (hx : rd.contains x = true) (hv : hdr v = hdr (st x))
    (h : RunU dr P n ops l (puts st ((x, v) :: up)) (nx + 1) ((rdE rd, (2 * x) :: fpE (up.map Prod.fst)) :: pre) Q) : RunU dr P n ops (⟨d, op, ty, pos, aft, none⟩ :: l) st nx pre Q := by
  subst he
  cases dr
  · exact RunL.cons hs h
  · exact RunD.consK hs hx hv h
theorem RunU.doit {d op ty pos aft j b t rd up} (hd : (ops[j]?).bind (·.dst) = some t) (ht : st t = .c (.lit (.bool b))) (hs : Step P n ⟨d, op, ty, pos, aft, some (j, b)⟩ nx st rd up)
    (h : RunU dr P n ops l (puts st up) (nx + 1) ((rdE (t :: rd), fpE (up.map Prod.fst)) :: pre) Q) : RunU dr P n ops (⟨d, op, ty, pos, aft, some (j, b)⟩ :: l) st nx pre Q := by
  cases dr
  · exact RunL.doit (by simpa using hd) ht hs h
  · exact RunD.doit hd ht hs h
theorem RunU.pass {d op ty pos aft j b b' t} (hd : (ops[j]?).bind (·.dst) = some t) (ht : st t = .c (.lit (.bool b))) (hb : b = !b') (hdn : n d = true)
    (h : RunU dr P n ops l (put st d (.tup [])) (nx + 1) ((rdE [t], fpE [d]) :: pre) Q) : RunU dr P n ops (⟨some d, op, ty, pos, aft, some (j, b')⟩ :: l) st nx pre Q := by
  cases dr
  · exact RunL.pass (by simpa using hd) ht hb hdn (RunL.more h)
  · exact RunD.pass hd ht hb hdn h
theorem RunU.pass_undef {d op ty pos aft j b' t} (hd : (ops[j]?).bind (·.dst) = some t) (ht : st t = .tup []) (hdn : n d = true)
    (h : RunU dr P n ops l (put st d (.tup [])) (nx + 1) ((rdE [t], fpE [d]) :: pre) Q) : RunU dr P n ops (⟨some d, op, ty, pos, aft, some (j, b')⟩ :: l) st nx pre Q := by
  cases dr
  · exact RunL.pass_undef (by simpa using hd) ht hdn (RunL.more h)
  · exact RunD.pass_undef hd ht hdn h
theorem RunU.guard {d op ty pos aft j b' t} {b : Bool} (hd : (ops[j]?).bind (·.dst) = some t) (ht : st t = .c (.lit (.bool b)))
    (h1 : b = true → RunU dr P n ops (⟨d, op, ty, pos, aft, some (j, b')⟩ :: l) (put st t (.c (.lit (.bool true)))) nx pre Q)
    (h2 : b = false → RunU dr P n ops (⟨d, op, ty, pos, aft, some (j, b')⟩ :: l) (put st t (.c (.lit (.bool false)))) nx pre Q) : RunU dr P n ops (⟨d, op, ty, pos, aft, some (j, b')⟩ :: l) st nx pre Q := by
  have _ := hd
  cases b with
  | true => have := h1 rfl; rwa [put_eq_self ht] at this
  | false => have := h2 rfl; rwa [put_eq_self ht] at this
theorem RunU.guard_dec {d op ty pos aft j b' t} {c : Prop} {hc : Decidable c} (hd : (ops[j]?).bind (·.dst) = some t) (ht : st t = .c (.lit (.bool (@decide c hc))))
    (h1 : c → RunU dr P n ops (⟨d, op, ty, pos, aft, some (j, b')⟩ :: l) (put st t (.c (.lit (.bool true)))) nx pre Q)
    (h2 : ¬ c → RunU dr P n ops (⟨d, op, ty, pos, aft, some (j, b')⟩ :: l) (put st t (.c (.lit (.bool false)))) nx pre Q) : RunU dr P n ops (⟨d, op, ty, pos, aft, some (j, b')⟩ :: l) st nx pre Q :=
  RunU.guard hd ht (fun h => h1 (of_decide_eq_true h)) (fun h => h2 (of_decide_eq_false h))
theorem RunU.guard_not {d op ty pos aft j b' t} {c : Prop} {hc : Decidable c} (hd : (ops[j]?).bind (·.dst) = some t) (ht : st t = .c (.lit (.bool (!@decide c hc))))
    (h1 : ¬ c → RunU dr P n ops (⟨d, op, ty, pos, aft, some (j, b')⟩ :: l) (put st t (.c (.lit (.bool true)))) nx pre Q)
    (h2 : c → RunU dr P n ops (⟨d, op, ty, pos, aft, some (j, b')⟩ :: l) (put st t (.c (.lit (.bool false)))) nx pre Q) : RunU dr P n ops (⟨d, op, ty, pos, aft, some (j, b')⟩ :: l) st nx pre Q :=
  RunU.guard hd ht (fun h => h1 (of_decide_eq_false (by simpa using h))) (fun h => h2 (of_decide_eq_true (by simpa using h)))
theorem WpA.regionU {Q : Exit → (Nat → AV) → Nat → Prop} {id : Nat} (h : RunU false P n l l st nx [] fun s k => Q .normal s k) : WpA P n (.region id l.toArray false) st nx Q := WpA.region h
theorem WpA.drawU [hm : Mixed P] {Q : Exit → (Nat → AV) → Nat → Prop} {id : Nat} (h : RunU true P n l l st nx [] fun s k => Q .normal s k) : WpA P n (.region id l.toArray true) st nx Q := WpA.draw h
end
end Go.Pv
namespace Go.Pv
open Go.RowKit
section
variable {P : Program} {n : NN} {nid : Nat} {st : Nat → AV} {f : Fr} {X : Nat → Prop} {a : Act} {w : World} {ρ : Nat → Rho} {L : Nat → List Nat} {M : List Nat}
theorem nav_put : ∀ (path : List Nat) (dd d0 e : D), dd.nav path = some d0 → (dd.put path e).nav path = some e
  | [], _, _, _, _ => rfl
  | k :: path, dd, d0, e, h => by
    simp only [D.nav] at h
    cases hk : dd.kids with
    | none => simp [hk] at h
    | some cs =>
      simp only [hk] at h
      cases hc : cs[k]? with
      | none => simp [hc] at h
      | some c =>
        simp only [hc] at h
        have hlt : k < cs.length := (List.getElem?_eq_some_iff.1 hc).1
        simp only [D.put, hk, hc, D.nav, kids_with hk, List.getElem?_set_self hlt]
        exact nav_put path c d0 e h
theorem put_put : ∀ (path : List Nat) (dd d0 e e' : D), dd.nav path = some d0 → (dd.put path e).put path e' = dd.put path e'
  | [], _, _, _, _, _ => rfl
  | k :: path, dd, d0, e, e', h => by
    simp only [D.nav] at h
    cases hk : dd.kids with
    | none => simp [hk] at h
    | some cs =>
      simp only [hk] at h
      cases hc : cs[k]? with
      | none => simp [hc] at h
      | some c =>
        simp only [hc] at h
        have hlt : k < cs.length := (List.getElem?_eq_some_iff.1 hc).1
        simp only [D.put, hk, hc, kids_with hk, List.getElem?_set_self hlt, with_with hk, List.set_set]
        rw [put_put path c d0 e e' h]
theorem WpA.loop_slots2 {c : Code} {nx : Nat} {Q : Exit → (Nat → AV) → Nat → Prop} (slots : Nat → Nat → List (Nat × AV)) (C : Nat → Prop) (μ : Nat → Nat) (i0 id0 : Nat) (hC : C i0) (h0 : Has st (slots i0 id0))
    (round : ∀ i id s k, C i → WpA P n c (puts s (slots i id)) k (Then (fun s' _ => ∃ i', C i' ∧ (∃ id', Has s' (slots i' id')) ∧ μ i' < μ i) Q)) : WpA P n (.loop c) st nx Q :=
  WpA.loop_slots (ι := Nat × Nat) (fun p => slots p.1 p.2) (fun p => C p.1) (fun p => μ p.1) (i0, id0) hC h0 fun p s k hp =>
    (round p.1 p.2 s k hp).mono fun e s' k' q => by
      cases e with
      | normal => obtain ⟨i', q1, ⟨id', q2⟩, q3⟩ := q; exact ⟨(i', id'), q1, q2, q3⟩
      | _ => exact q
inductive IoAt (st : Nat → AV) : Operand → Nat → Nat → List Nat → D → D → List Nat → Prop
  | sl {t id sz cs} : st t = .own id (.sl true sz cs) → IoAt st (.tmp t) t id [] (.sl true sz cs) (.sl true sz cs) [t]
  | pt {t id cs} : st t = .own id (.pt true cs) → IoAt st (.tmp t) t id [] (.pt true cs) (.pt true cs) [t]
  | als {t x id path dd sz cs} : st t = .als x id path → st x = .own id dd → dd.nav path = some (.sl true sz cs) → IoAt st (.tmp t) x id path dd (.sl true sz cs) [t, x]
  | ptr {t x id cs} : st t = .ptr x id [] 0 → st x = .own id (.pt true cs) → IoAt st (.tmp t) x id [] (.pt true cs) (.pt true cs) [t, x]
theorem IoAt.agree {st' : Nat → AV} {x : Operand} {xr id : Nat} {path rd : List Nat} {dd d : D} (h : IoAt st x xr id path dd d rd) (hs : ∀ s ∈ rd, st' s = st s) : IoAt st' x xr id path dd d rd := by
  cases h with
  | sl h => exact .sl ((hs _ (by simp)).trans h)
  | pt h => exact .pt ((hs _ (by simp)).trans h)
  | als h1 h2 h3 => exact .als ((hs _ (by simp)).trans h1) ((hs _ (by simp)).trans h2) h3
  | ptr h1 h2 => exact .ptr ((hs _ (by simp)).trans h1) ((hs _ (by simp)).trans h2)
theorem IoAt.own {x : Operand} {xr id : Nat} {path rd : List Nat} {dd d : D} (h : IoAt st x xr id path dd d rd) : st xr = .own id dd ∧ dd.nav path = some d ∧ xr ∈ rd := by
  cases h <;> exact ⟨by assumption, by first | rfl | assumption, by simp⟩
theorem named {F : Nat → Prop} {w : World} {d : D} {cs : List D} {r : Rho} {v : Value} {L1 : List Nat} (hk : d.kids = some cs) (h : RD F w d r v L1) : v = r [] := by
  cases d with
  | lit v => simp [D.kids] at hk
  | hole => simp [D.kids] at hk
  | fn g cs => simp [D.kids] at hk
  | sl own sz cs' => cases own <;> simp [D.kids] at hk; simp only [RD] at h; exact h.1
  | pt own cs' => cases own <;> simp [D.kids] at hk; simp only [RD] at h; exact h.1
theorem IoAt.kids {x : Operand} {xr id : Nat} {path rd : List Nat} {dd d : D} (h : IoAt st x xr id path dd d rd) : ∃ cs, d.kids = some cs := by
  cases h <;> exact ⟨_, rfl⟩
theorem IoAt.eval (hr : RepO f X st a w ρ L) {x : Operand} {xr id : Nat} {path rd : List Nat} {dd d : D} (h : IoAt st x xr id path dd d rd) : a.eval x = ρ id path := by
  cases h with
  | @sl _ _ sz cs h =>
    have := hr.slots xr
    rw [h] at this
    simp only [SR] at this
    exact named (cs := cs) rfl this
  | @pt _ _ cs h =>
    have := hr.slots xr
    rw [h] at this
    simp only [SR] at this
    exact named (cs := cs) rfl this
  | @als t x id path dd sz cs h1 h2 h3 =>
    have := hr.slots t
    rw [h1] at this
    simp only [SR] at this
    exact this.2
  | @ptr t _ _ cs h1 h2 =>
    have ht := hr.slots t
    rw [h1] at ht
    simp only [SR] at ht
    obtain ⟨_, b, hb, e0⟩ := ht
    have hx := hr.slots xr
    rw [h2] at hx
    simp only [SR] at hx
    simp only [RD] at hx
    obtain ⟨e1, g, us, L1, ty, e3, _⟩ := hx
    have e1 : tmp a xr = ρ id [] := e1
    rw [← e1, e3] at hb ⊢
    simp only [baseOf, Option.some.injEq] at hb
    show tmp a t = _
    rw [e0, ← hb, add_zero']
theorem RepM.lend (h : RepM f X st a w ρ L M) {x : Operand} {xr id : Nat} {path rd : List Nat} {dd d : D} (hi : IoAt st x xr id path dd d rd) :
    ∃ r L' M1, RepM f X (put st xr (.own id (dd.put path .hole))) a w ρ L' (M ++ M1) ∧ RD f.F w d r (a.eval x) M1 := by
  obtain ⟨hx, hn, _⟩ := hi.own
  have hids := h.rep.ids xr
  rw [hx] at hids
  obtain ⟨cs, hk⟩ := hi.kids
  obtain ⟨v1, A, L1, B, eL, h3, hset⟩ := h.rep.part hx hn
  have hv1 : v1 = (ρ id).sub path [] := named hk h3
  have hev : a.eval x = v1 := by rw [hv1, Rho.sub_nil]; exact hi.eval h.rep
  have hfin := hset w .hole ((ρ id).sub path) [] (fun _ _ => rfl) (fun _ _ => rfl) (by simp only [RD]; exact ⟨hv1, h3.one, trivial⟩)
  rw [Rho.set_sub] at hfin
  have hnd := h.rep.nodup xr
  rw [eL] at hnd
  simp only [List.nodup_append, List.mem_append] at hnd
  rw [hev]
  refine ⟨_, _, L1, h.detach xr (.own id (dd.put path .hole)) (A ++ ([] ++ B)) L1 (by simp only [SR]; exact hfin) (by simpa [AV.ids] using hids) (fun g hg => ?_) ?_ hnd.2.1.1 (fun g hg hg' => ?_), h3⟩
  · rw [eL]; simp only [List.nil_append, List.mem_append] at hg ⊢; grind
  · simp only [List.nil_append, List.nodup_append]; grind
  · simp only [List.nil_append, List.mem_append] at hg; grind
def litAV : List Value → AV
  | [] => .dead
  | [v] => .c (.lit v)
  | vs => .tup (vs.map fun v => .c (.lit v))
theorem lits_res {F : Nat → Prop} {w : World} : ∀ (vs : List Value) (us : List Value) (Lr : List Nat), VRs F w (vs.map fun v => .one (.lit v)) us Lr → us = vs ∧ Lr = [] ∧ ∀ v ∈ vs, v.oneCell' = true
  | [], us, Lr, h => by simp only [List.map_nil, VRs] at h; exact ⟨h.1, h.2, by simp⟩
  | v :: vs, us, Lr, h => by
    simp only [List.map_cons, VRs, VR, RD] at h
    obtain ⟨u, us', L1, L2, rfl, rfl, ⟨r, rfl, h1, rfl⟩, h2⟩ := h
    obtain ⟨rfl, rfl, h3⟩ := lits_res vs us' L2 h2
    exact ⟨rfl, rfl, by simpa using ⟨h1, h3⟩⟩
theorem SR_lit {F : Nat → Prop} {w : World} {ρ : Nat → Rho} {v : Value} (h : v.oneCell' = true) : SR F w ρ (.c (.lit v)) v [] := by
  simp only [SR, RD]; exact ⟨trivial, fun _ => undef, trivial, h, trivial⟩
theorem SRs_lits {F : Nat → Prop} {w : World} {ρ : Nat → Rho} : ∀ (vs : List Value), (∀ v ∈ vs, v.oneCell' = true) → SRs F w ρ (vs.map fun v => .c (.lit v)) vs []
  | [], _ => by simp [SRs]
  | v :: vs, h => by
    simp only [List.map_cons, SRs]
    exact ⟨v, vs, [], [], rfl, rfl, SR_lit (h v (by simp)), SRs_lits vs fun u hu => h u (by simp [hu])⟩
theorem SR_litAV {F : Nat → Prop} {w : World} {ρ : Nat → Rho} (vs : List Value) (h : ∀ v ∈ vs, v.oneCell' = true) : SR F w ρ (litAV vs) (retVal vs) [] := by
  match vs, h with
  | [], _ => simp only [litAV, SR]
  | [v], h => exact SR_lit (h v (by simp))
  | u :: v :: vs, h => simp only [litAV, SR]; exact ⟨_, rfl, SRs_lits _ h⟩
theorem litAV_ids (vs : List Value) : (litAV vs).ids = [] := by
  have : ∀ vs : List Value, AV.idss (vs.map fun v => .c (.lit v)) = [] := by
    intro vs
    induction vs with
    | nil => rfl
    | cons v vs ih => simp [AV.idss, AV.ids, ih]
  match vs with
  | [] => rfl
  | [v] => rfl
  | u :: v :: vs => simp only [litAV, AV.ids]; exact this _
theorem step_call_io {d0 : Nat} {K : FuncId} {x : Operand} {xs : List Operand} {ts : Array TypeId} {args : List Arg} {rs : List Value} {d d' dd : D} {xr id : Nat} {path rd rd1 rd2 : List Nat} {up : List (Nat × AV)} {ty pos aft g} [FnOk P K]
    (hc : CallA P K (.io d :: args) (rs.map fun v => .one (.lit v)) [d']) (hi : IoAt st x xr id path dd d rd) (hm : Moves (put st xr (.own id (dd.put path .hole))) xs args rd1 up) (hr : Reads (puts (put st xr (.own id (dd.put path .hole))) up) xs args rd2)
    (hx : puts (put st xr (.own id (dd.put path .hole))) up xr = .own id (dd.put path .hole)) (hne : (d0 == xr) = false) (hd : n d0 = true) :
    Step P n ⟨some d0, .call ⟨.value (.func K), (x :: xs).toArray, ts⟩, ty, pos, aft, g⟩ nid st (rd ++ (rd1 ++ rd2)) ((xr, .own id (dd.put path .hole)) :: (up ++ [(d0, litAV rs), (xr, .own nid (dd.put path d'))])) := by
  intro X st' hs hX f a w hn hrep Kk Q hK
  obtain ⟨ρ, L, h⟩ := hrep
  subst hn
  have hne : d0 ≠ xr := by simpa using hne
  have hi' := hi.agree (st' := st') fun s hs' => hs s (List.mem_append_left _ hs')
  have ag : ∀ s, st' s = st s → put st' xr (.own id (dd.put path .hole)) s = put st xr (.own id (dd.put path .hole)) s := fun s e => by unfold put; split <;> simp_all
  have hm' := hm.agree (st' := put st' xr (.own id (dd.put path .hole))) fun s hs' => ag s (hs s (by simp [hs']))
  obtain ⟨r0, L0, M0, h0, hv0⟩ := h.toM.lend hi'
  obtain ⟨L', M1, h1, h2⟩ := h0.moves hm'
  simp only [puts] at hK
  rw [puts_append] at hK
  rw [List.nil_append] at h1
  have hr' := hr.agree (st' := puts (put st' xr (.own id (dd.put path .hole))) up) fun s hs' => puts_agree _ _ (ag s (hs s (by simp [hs'])))
  have h3 := args_of (rd := []) h1 h2 hr'
  have hx' : puts (put st' xr (.own id (dd.put path .hole))) up xr = .own id (dd.put path .hole) := by
    exact (puts_agree up xr (by simp [put])).trans hx
  refine wp_of_enter (run_call a.eval rfl w) ?_
  have e : (x :: xs).toArray.map a.eval = (a.eval x :: xs.map a.eval).toArray := by simp
  rw [e]
  have hargs : ArgsR (Free w (M0 ++ M1)) w (.io d :: args) (a.eval x :: xs.map a.eval) (M0 ++ M1) := by
    simp only [ArgsR]
    exact ⟨_, _, M0, M1, rfl, rfl, ⟨r0, RD.same (fun _ hg => h1.free hg) (fun _ _ => rfl) d r0 _ M0 hv0 (fun _ _ => rfl)⟩, h3⟩
  refine (hc w _ (M0 ++ M1) (Free w (M0 ++ M1)) (fun _ h => h) hargs h1.nd (fun g hg => (h1.bound g hg).1)).mono ?_
  rintro e w' ⟨us, Lr, Lo, rfl, hk, hv, ho, hnd, hL⟩
  obtain ⟨rfl, rfl, hone⟩ := lits_res rs us Lr hv
  rw [List.nil_append] at hnd hL
  have hout : ∃ r, RD (Res true (Free w (M0 ++ M1))) w' d' r (a.eval x) Lo := by
    simp only [OutsR] at ho
    obtain ⟨u, us', d1, ds', r, La, Lb, e1, e2, rfl, k1, k2⟩ := ho
    obtain ⟨rfl, rfl⟩ := List.cons.inj e1
    obtain ⟨rfl, rfl⟩ := List.cons.inj e2
    have hLb : Lb = [] := outs_nil h2 _ _ k2
    subst hLb
    exact ⟨r, by simpa using k1⟩
  obtain ⟨r, hout⟩ := hout
  refine ⟨_, rfl, ?_⟩
  have hxs := h1.rep.slots xr
  rw [hx'] at hxs
  simp only [SR] at hxs
  have hnav := nav_put path dd d .hole hi.own.2.1
  obtain ⟨v1, A, L1, B, eL, h5, hset⟩ := RD.focus path _ _ _ _ hxs .hole hnav
  simp only [RD] at h5
  obtain ⟨hv1, _, rfl⟩ := h5
  have hev : a.eval x = v1 := by rw [hv1, Rho.sub_nil]; exact hi'.eval h
  rw [hev] at hout
  have hFs : ∀ g, f.F g → Same w w' g := fun g hg => hk.block g (h1.rep.F_lt hg) (fun hm => (h1.bound g hm).2 hg)
  have hLx : ∀ t, ∀ g ∈ L' t, Same w w' g := fun t g hg => hk.block g (h1.rep.bound t g hg).1 (h1.disj t g hg)
  have hfin := hset w' d' r Lo hFs (fun g hg => hLx xr g (by rw [eL]; rcases hg with hg | hg <;> simp [hg])) (RD.same (fun g hg => by cases hg.1) (fun g hg => by cases hg.1) d' r _ Lo hout (fun _ _ => rfl))
  rw [put_put path dd d .hole d' hi.own.2.1] at hfin
  refine hK _ _ ⟨fun i => if i = nid then (ρ id).set path r else ρ i, fun s => if s = xr then A ++ (Lo ++ B) else if s = d0 then [] else L' s, ?_⟩
  have hL0 : ∀ g ∈ Lo, g ∉ L' xr := fun g hg hg' => by
    rcases (hL g hg).2 with h | h
    · exact h1.disj xr g hg' h
    · have := (h1.rep.bound xr g hg').1; omega
  have hndx := h1.rep.nodup xr
  rw [eL] at hndx
  have hst : ∀ s, s ≠ xr → s ≠ d0 → puts (puts (put st' xr (.own id (dd.put path .hole))) up) [(d0, litAV us), (xr, .own nid (dd.put path d'))] s = puts (put st' xr (.own id (dd.put path .hole))) up s := fun s h1 h2 => by
    simp only [puts]; rw [put_other _ _ _ _ h1, put_other _ _ _ _ h2]
  refine h1.step (fun s => s = xr ∨ s = d0) (M0 ++ M1) _ _ _ w' _ _ (put_defers _ _ _) (put_size _ _ _) (hold_put _ hd) hk (fun g hg => .inr hg) (fun i hi => by rw [if_neg (by rintro rfl; exact hX hi)]) (fun s hs' => ?_) (fun s hs' => ?_) (fun s u hs' hu hsu g hg hgu => ?_) (fun _ h => .inl h) (fun s hs' i hi => ?_)
  · simp only [not_or] at hs'
    exact ⟨hst s hs'.1 hs'.2, tmp_put_other _ _ _ _ hs'.2, by simp [hs'.1, hs'.2]⟩
  · by_cases hsx : s = xr
    · subst hsx
      rw [if_pos rfl, tmp_put_other _ _ _ _ (Ne.symm hne)]
      simp only [puts, put_same, SR, if_true]
      refine ⟨hfin, ?_, fun g hg => ?_⟩
      · have hd2 : ∀ g ∈ Lo, g ∉ A ∧ g ∉ B := fun g hg => by
          have := hL0 g hg
          rw [eL] at this
          simp only [List.mem_append, not_or] at this
          exact ⟨this.1, this.2.2⟩
        simp only [List.nodup_append, List.mem_append] at hndx ⊢
        grind
      · simp only [List.mem_append] at hg
        rcases hg with hg | hg | hg
        · have : g ∈ L' s := by rw [eL]; simp [hg]
          exact ⟨Nat.lt_of_lt_of_le (h1.rep.bound s g this).1 hk.size, .inl ⟨s, .inl rfl, this⟩⟩
        · exact ⟨(hL g hg).1, .inr (hL g hg).2⟩
        · have : g ∈ L' s := by rw [eL]; simp [hg]
          exact ⟨Nat.lt_of_lt_of_le (h1.rep.bound s g this).1 hk.size, .inl ⟨s, .inl rfl, this⟩⟩
    · have hs0 : s = d0 := hs'.resolve_left hsx
      subst hs0
      rw [if_neg hsx, if_pos rfl, tmp_put_same _ _ _ (h1.rep.size _ hd)]
      simp only [puts]
      rw [put_other _ _ _ _ hsx, put_same]
      exact ⟨SR_litAV us hone, List.nodup_nil, fun g hg => by simp at hg⟩
  · by_cases hsx : s = xr
    · have hu0 : u ≠ xr := fun e => hsu (hsx.trans e.symm)
      have hu' : u = d0 := hu.resolve_left hu0
      rw [if_neg hu0, if_pos hu'] at hgu
      simp at hgu
    · have hs0 : s = d0 := hs'.resolve_left hsx
      rw [if_neg hsx, if_pos hs0] at hg
      simp at hg
  · by_cases hsx : s = xr
    · subst hsx
      simp only [puts, put_same, AV.ids, List.mem_singleton] at hi
      exact .inr hi
    · have hs0 : s = d0 := hs'.resolve_left hsx
      subst hs0
      simp only [puts] at hi
      rw [put_other _ _ _ _ hsx, put_same, litAV_ids] at hi
      simp at hi
theorem nav_LL {L : List (List Int)} {j : Nat} (h : j < L.length) : (D.sl true 1 (LL L)).nav ([] ++ [j]) = some (.sl true 1 (ints (L.getD j []))) := by
  simp only [List.nil_append, D.nav, D.kids, LL, LL_get h]
theorem idx_lit (k : Nat) : (OfNat.ofNat k : Int) = ((OfNat.ofNat k : Nat) : Int) := rfl
theorem nav_snoc : ∀ (path : List Nat) (dd d1 : D) (cs : List D) (c : D) (j : Nat), dd.nav path = some d1 → d1.kids = some cs → cs[j]? = some c → dd.nav (path ++ [j]) = some c
  | [], dd, d1, cs, c, j, h, hk, hc => by
    simp only [D.nav, Option.some.injEq] at h
    subst h
    simp only [List.nil_append, D.nav, hk, hc]
  | k :: path, dd, d1, cs, c, j, h, hk, hc => by
    simp only [D.nav] at h
    cases hk1 : dd.kids with
    | none => simp [hk1] at h
    | some cs1 =>
      simp only [hk1] at h
      cases hc1 : cs1[k]? with
      | none => simp [hc1] at h
      | some c1 =>
        simp only [hc1] at h
        simp only [List.cons_append, D.nav, hk1, hc1]
        exact nav_snoc path c1 d1 cs c j h hk hc
theorem nav_LL_at {path : List Nat} {dd : D} {L : List (List Int)} {j : Nat} (h : dd.nav path = some (.sl true 1 (LL L))) (hj : j < L.length) : dd.nav (path ++ [j]) = some (.sl true 1 (ints (L.getD j []))) :=
  nav_snoc path dd _ _ _ j h rfl (by simp only [LL, LL_get hj])
theorem step_call_io1 {d0 : Nat} {K : FuncId} {x : Operand} {xs : List Operand} {ts : Array TypeId} {args : List Arg} {v : Value} {d d' dd : D} {xr id : Nat} {path rd rd1 rd2 : List Nat} {up : List (Nat × AV)} {ty pos aft g} [FnOk P K]
    (hc : CallA P K (.io d :: args) [.one (.lit v)] [d']) (hi : IoAt st x xr id path dd d rd) (hm : Moves (put st xr (.own id (dd.put path .hole))) xs args rd1 up) (hr : Reads (puts (put st xr (.own id (dd.put path .hole))) up) xs args rd2)
    (hx : puts (put st xr (.own id (dd.put path .hole))) up xr = .own id (dd.put path .hole)) (hne : (d0 == xr) = false) (hd : n d0 = true) :
    Step P n ⟨some d0, .call ⟨.value (.func K), (x :: xs).toArray, ts⟩, ty, pos, aft, g⟩ nid st (rd ++ (rd1 ++ rd2)) ((xr, .own id (dd.put path .hole)) :: (up ++ [(d0, .c (.lit v)), (xr, .own nid (dd.put path d'))])) := step_call_io (rs := [v]) hc hi hm hr hx hne hd
theorem step_call_io0 {d0 : Nat} {K : FuncId} {x : Operand} {xs : List Operand} {ts : Array TypeId} {args : List Arg} {d d' dd : D} {xr id : Nat} {path rd rd1 rd2 : List Nat} {up : List (Nat × AV)} {ty pos aft g} [FnOk P K]
    (hc : CallA P K (.io d :: args) [] [d']) (hi : IoAt st x xr id path dd d rd) (hm : Moves (put st xr (.own id (dd.put path .hole))) xs args rd1 up) (hr : Reads (puts (put st xr (.own id (dd.put path .hole))) up) xs args rd2)
    (hx : puts (put st xr (.own id (dd.put path .hole))) up xr = .own id (dd.put path .hole)) (hne : (d0 == xr) = false) (hd : n d0 = true) :
    Step P n ⟨some d0, .call ⟨.value (.func K), (x :: xs).toArray, ts⟩, ty, pos, aft, g⟩ nid st (rd ++ (rd1 ++ rd2)) ((xr, .own id (dd.put path .hole)) :: (up ++ [(d0, .dead), (xr, .own nid (dd.put path d'))])) := step_call_io (rs := []) hc hi hm hr hx hne hd
theorem io_any {x : Operand} {xr id : Nat} {path rd : List Nat} {dd d : D} (h : IoAt st x xr id path dd d rd := by first | exact .als rfl rfl rfl | exact .als rfl rfl (nav_LL (by omega)) | exact .sl rfl | exact .pt rfl | exact .ptr rfl rfl) : IoAt st x xr id path dd d rd := h
theorem RunL.eql_nil {ops : Array Oper} {Q : (Nat → AV) → Nat → Prop} {d : Nat} {x : Operand} {T T' : TypeId} {ty pos aft} {l : List Oper} {nx : Nat} {rd : List Nat} {sz sz' : Nat} {cs : List D} [hT : SliceTy P T sz'] (hv : View st x rd sz cs) (hd : n d = true)
    (h : ∀ b : Bool, (b = true → cs = []) → RunL P n ops l (puts st [(d, .c (.lit (.bool b)))]) (nx + 1) Q) : RunL P n ops (⟨some d, .binOp .eql T x (.const (.slice none 0 0)) T', ty, pos, aft, none⟩ :: l) st nx Q := by
  refine RunL.of0 ?_
  intro f a w Q' hn hr hQ
  obtain ⟨ρ, L, hr⟩ := hr
  obtain ⟨us, r, ⟨a0, n0, c0, e0, h1, h2, h3, h4⟩, h5⟩ := hv.read hr
  obtain ⟨e, i, z, t1, _⟩ := hT.out
  refine wpList_plain rfl fun K hK => ?_
  have hb : a0.isNone = true → cs = [] := by
    intro hnone
    by_cases hu : us = []
    · subst hu
      have := h5.length
      rw [D.erases_eq, List.length_map] at this
      exact List.eq_nil_of_length_eq_zero this.symm
    · obtain ⟨b, rfl, _⟩ := h4 hu
      simp at hnone
  refine wp_of_value (u := .bool a0.isNone) (w' := w) ?_ (hr.done_lit (nid := nx) (d := d) (K := K) ?_ (by rw [hn]; exact hd) rfl)
  · simp only [execOp, Sem.run_bind]
    have e1 : a.eval (.const (.slice none 0 0)) = .slice none 0 0 := rfl
    rw [e0, e1]
    have hg : (eqGuard .eql T x (.const (.slice none 0 0)) (.slice a0 n0 c0) (.slice none 0 0)).run P w = .ok () w := by
      unfold eqGuard; simp
    simp only [hg, Result.andThen_ok, binOp, Sem.run_bind]
    rw [run_equal_slice_nil (P := P) w T e a0 n0 c0 t1]
    simp
  · intro a' w' hr'
    exact hK a' w' (h a0.isNone hb f a' w' Q' hn (.of (hr'.weaken fun i hi => by omega)) hQ)
theorem RunU.eql_nil {ops l : List Oper} {pre} {Q : (Nat → AV) → Nat → Prop} {d : Nat} {x : Operand} {T T' : TypeId} {ty pos aft} {nx : Nat} {rd : List Nat} {sz sz' : Nat} {cs : List D} [hT : SliceTy P T sz'] (hv : View st x rd sz cs) (hd : n d = true)
    (h : ∀ b : Bool, (b = true → cs = []) → RunU false P n ops l (puts st [(d, .c (.lit (.bool b)))]) (nx + 1) ((rd, [d]) :: pre) Q) : RunU false P n ops (⟨some d, .binOp .eql T x (.const (.slice none 0 0)) T', ty, pos, aft, none⟩ :: l) st nx pre Q :=
  RunL.eql_nil hv hd h
end
end Go.Pv
