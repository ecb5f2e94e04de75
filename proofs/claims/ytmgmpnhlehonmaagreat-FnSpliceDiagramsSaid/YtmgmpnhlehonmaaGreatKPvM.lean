/- What the walks ask of a program's types, out of closed facts. No condition. -/
import Derived.Test.YtmgmpnhlehonmaaGreatKPvG
import Derived.Laws.IdiomCopy
import Derived.Deep.OwnRows
import Derived.Orders
import Derived.ProofKit
import Derived.Deep.Slices
set_option linter.unusedVariables false
set_option linter.unusedSimpArgs false
namespace Go.Pv
open Go.RowKit
section
variable {P : Program} {n : NN} {nid : Nat} {st : Nat → AV}
def fits (x : Int) : Prop := -9223372036854775808 ≤ x ∧ x ≤ 9223372036854775807
theorem wrap_fits {x : Int} (h : fits x) : IntKind.i64.wrap x = x := by
 unfold fits at h
 rw [IntKind.wrap_i64]; omega
theorem step_bin {d : Nat} {op : BinOp} {T T' : TypeId} {x y : Operand} {u v r : Value} {ty pos aft g} (hx : Lit st x u) (hy : Lit st y v) (hr : r.oneCell' = true)
  (h : ∀ w : World, (do eqGuard op T x y u v; binOp op T u v : Sem Value).run P w = .ok r w) (hd : n d = true) :
  Step P n ⟨some d, .binOp op T x y T', ty, pos, aft, g⟩ nid st (rdOf x ++ rdOf y) [(d, .c (.lit r))] := by
 have := step_pure (P := P) (n := n) (nid := nid) (st := st) (o := ⟨some d, .binOp op T x y T', ty, pos, aft, g⟩) (d := d) (u := r) [(x, u), (y, v)] rfl hd hr (by simpa using ⟨hx, hy⟩) (fun ev w hev => by
  have e1 := hev (x, u) (by simp)
  have e2 := hev (y, v) (by simp)
  simp only at e1 e2
  have := h w
  simp only [execOp, e1, e2, Sem.run_bind] at this ⊢
  rw [this]
  rfl)
 simpa using this
theorem eqGuard_int (op : BinOp) (T : TypeId) (x y : Operand) (k k' : IntKind) (a b : Int) (w : World) : (eqGuard op T x y (.int k a) (.int k' b)).run P w = .ok () w := by
 unfold eqGuard
 cases op <;> simp
theorem eqGuard_bool (op : BinOp) (T : TypeId) (x y : Operand) (a b : Bool) (w : World) : (eqGuard op T x y (.bool a) (.bool b)).run P w = .ok () w := by
 unfold eqGuard
 cases op <;> simp
section ints
variable {d : Nat} {T T' : TypeId} {x y : Operand} {k : IntKind} {a b : Int} {ty : TypeId} {pos : String} {aft : Array Edge} {g : Option (Nat × Bool)}
theorem step_add (hx : Lit st x (.int k a)) (hy : Lit st y (.int k b)) (hd : n d = true) : Step P n ⟨some d, .binOp .add T x y T', ty, pos, aft, g⟩ nid st (rdOf x ++ rdOf y) [(d, .c (.lit (.int k (k.wrap (a + b)))))] :=
 step_bin hx hy rfl (fun w => by simp [eqGuard_int, binOp, Op.intArith]) hd
theorem step_sub (hx : Lit st x (.int k a)) (hy : Lit st y (.int k b)) (hd : n d = true) : Step P n ⟨some d, .binOp .sub T x y T', ty, pos, aft, g⟩ nid st (rdOf x ++ rdOf y) [(d, .c (.lit (.int k (k.wrap (a - b)))))] :=
 step_bin hx hy rfl (fun w => by simp [eqGuard_int, binOp, Op.intArith]) hd
theorem step_mul (hx : Lit st x (.int k a)) (hy : Lit st y (.int k b)) (hd : n d = true) : Step P n ⟨some d, .binOp .mul T x y T', ty, pos, aft, g⟩ nid st (rdOf x ++ rdOf y) [(d, .c (.lit (.int k (k.wrap (a * b)))))] :=
 step_bin hx hy rfl (fun w => by simp [eqGuard_int, binOp, Op.intArith]) hd
theorem step_quo (hx : Lit st x (.int k a)) (hy : Lit st y (.int k b)) (hb : b ≠ 0) (hd : n d = true) : Step P n ⟨some d, .binOp .quo T x y T', ty, pos, aft, g⟩ nid st (rdOf x ++ rdOf y) [(d, .c (.lit (.int k (k.wrap (a.tdiv b)))))] :=
 step_bin hx hy rfl (fun w => by simp [eqGuard_int, binOp, Op.intDiv, hb]) hd
theorem step_rem (hx : Lit st x (.int k a)) (hy : Lit st y (.int k b)) (hb : b ≠ 0) (hd : n d = true) : Step P n ⟨some d, .binOp .rem T x y T', ty, pos, aft, g⟩ nid st (rdOf x ++ rdOf y) [(d, .c (.lit (.int k (a.tmod b))))] :=
 step_bin hx hy rfl (fun w => by simp [eqGuard_int, binOp, Op.intDiv, hb]) hd
theorem step_add_in (hx : Lit st x (.int .i64 a)) (hy : Lit st y (.int .i64 b)) (h : fits (a + b)) (hd : n d = true) : Step P n ⟨some d, .binOp .add T x y T', ty, pos, aft, g⟩ nid st (rdOf x ++ rdOf y) [(d, .c (.lit (.int .i64 (a + b))))] := by
 have := step_add (P := P) (n := n) (nid := nid) (T := T) (T' := T') (ty := ty) (pos := pos) (aft := aft) (g := g) hx hy hd
 rwa [wrap_fits h] at this
theorem step_sub_in (hx : Lit st x (.int .i64 a)) (hy : Lit st y (.int .i64 b)) (h : fits (a - b)) (hd : n d = true) : Step P n ⟨some d, .binOp .sub T x y T', ty, pos, aft, g⟩ nid st (rdOf x ++ rdOf y) [(d, .c (.lit (.int .i64 (a - b))))] := by
 have := step_sub (P := P) (n := n) (nid := nid) (T := T) (T' := T') (ty := ty) (pos := pos) (aft := aft) (g := g) hx hy hd
 rwa [wrap_fits h] at this
theorem step_mul_in (hx : Lit st x (.int .i64 a)) (hy : Lit st y (.int .i64 b)) (h : fits (a * b)) (hd : n d = true) : Step P n ⟨some d, .binOp .mul T x y T', ty, pos, aft, g⟩ nid st (rdOf x ++ rdOf y) [(d, .c (.lit (.int .i64 (a * b))))] := by
 have := step_mul (P := P) (n := n) (nid := nid) (T := T) (T' := T') (ty := ty) (pos := pos) (aft := aft) (g := g) hx hy hd
 rwa [wrap_fits h] at this
theorem step_quo_in (hx : Lit st x (.int .i64 a)) (hy : Lit st y (.int .i64 b)) (ha : 0 ≤ a) (ha' : a ≤ 9223372036854775807) (hb : 0 < b) (hd : n d = true) : Step P n ⟨some d, .binOp .quo T x y T', ty, pos, aft, g⟩ nid st (rdOf x ++ rdOf y) [(d, .c (.lit (.int .i64 (a / b))))] := by
 have := step_quo (P := P) (n := n) (nid := nid) (T := T) (T' := T') (ty := ty) (pos := pos) (aft := aft) (g := g) hx hy (by omega) hd
 rw [Int.tdiv_eq_ediv_of_nonneg ha, wrap_fits ⟨by have := Int.ediv_nonneg ha (Int.le_of_lt hb); omega, by have := Int.ediv_le_self b ha; omega⟩] at this
 exact this
theorem step_rem_in (hx : Lit st x (.int k a)) (hy : Lit st y (.int k b)) (ha : 0 ≤ a) (hb : 0 < b) (hd : n d = true) : Step P n ⟨some d, .binOp .rem T x y T', ty, pos, aft, g⟩ nid st (rdOf x ++ rdOf y) [(d, .c (.lit (.int k (a % b))))] := by
 have := step_rem (P := P) (n := n) (nid := nid) (T := T) (T' := T') (ty := ty) (pos := pos) (aft := aft) (g := g) hx hy (by omega) hd
 rw [Int.tmod_eq_emod_of_nonneg ha] at this
 exact this
theorem step_eql (hx : Lit st x (.int k a)) (hy : Lit st y (.int k b)) (hd : n d = true) : Step P n ⟨some d, .binOp .eql T x y T', ty, pos, aft, g⟩ nid st (rdOf x ++ rdOf y) [(d, .c (.lit (.bool (decide (a = b)))))] :=
 step_bin hx hy rfl (fun w => by simp [eqGuard_int, binOp, Op.intCmp]; rfl) hd
theorem step_neq (hx : Lit st x (.int k a)) (hy : Lit st y (.int k b)) (hd : n d = true) : Step P n ⟨some d, .binOp .neq T x y T', ty, pos, aft, g⟩ nid st (rdOf x ++ rdOf y) [(d, .c (.lit (.bool (decide (a ≠ b)))))] :=
 step_bin hx hy rfl (fun w => by simp [eqGuard_int, binOp, Op.intCmp, bne]; rfl) hd
theorem step_lss (hx : Lit st x (.int k a)) (hy : Lit st y (.int k b)) (hd : n d = true) : Step P n ⟨some d, .binOp .lss T x y T', ty, pos, aft, g⟩ nid st (rdOf x ++ rdOf y) [(d, .c (.lit (.bool (decide (a < b)))))] :=
 step_bin hx hy rfl (fun w => by simp [eqGuard_int, binOp, Op.intCmp]) hd
theorem step_leq (hx : Lit st x (.int k a)) (hy : Lit st y (.int k b)) (hd : n d = true) : Step P n ⟨some d, .binOp .leq T x y T', ty, pos, aft, g⟩ nid st (rdOf x ++ rdOf y) [(d, .c (.lit (.bool (decide (a ≤ b)))))] :=
 step_bin hx hy rfl (fun w => by simp [eqGuard_int, binOp, Op.intCmp]) hd
theorem step_gtr (hx : Lit st x (.int k a)) (hy : Lit st y (.int k b)) (hd : n d = true) : Step P n ⟨some d, .binOp .gtr T x y T', ty, pos, aft, g⟩ nid st (rdOf x ++ rdOf y) [(d, .c (.lit (.bool (decide (b < a)))))] :=
 step_bin hx hy rfl (fun w => by simp [eqGuard_int, binOp, Op.intCmp]) hd
theorem step_geq (hx : Lit st x (.int k a)) (hy : Lit st y (.int k b)) (hd : n d = true) : Step P n ⟨some d, .binOp .geq T x y T', ty, pos, aft, g⟩ nid st (rdOf x ++ rdOf y) [(d, .c (.lit (.bool (decide (b ≤ a)))))] :=
 step_bin hx hy rfl (fun w => by simp [eqGuard_int, binOp, Op.intCmp]) hd
class IntTy (P : Program) (T : TypeId) (k : outParam IntKind) : Prop where
 out : P.underlying T = some (.int k)
theorem step_convert {S : TypeId} [hT : IntTy P T k] {k0 k1 : IntKind} [hS : IntTy P S k1] (hx : Lit st x (.int k0 a)) (hd : n d = true) : Step P n ⟨some d, .convert S T x, ty, pos, aft, g⟩ nid st (rdOf x) [(d, .c (.lit (.int k (k.wrap a))))] := by
 have := step_pure (P := P) (n := n) (nid := nid) (st := st) (o := ⟨some d, .convert S T x, ty, pos, aft, g⟩) (d := d) (u := .int k (k.wrap a)) [(x, .int k0 a)] rfl hd rfl (by simpa using hx) (fun ev w hev => by
  have e1 := hev (x, .int k0 a) (by simp)
  simp only at e1
  simp [execOp, e1, convert, run_underlying hS.out, run_underlying hT.out, Conv.intToInt])
 simpa using this
theorem step_convert_in {S : TypeId} [hT : IntTy P T .i64] {k0 k1 : IntKind} [hS : IntTy P S k1] (hx : Lit st x (.int k0 a)) (h : fits a) (hd : n d = true) : Step P n ⟨some d, .convert S T x, ty, pos, aft, g⟩ nid st (rdOf x) [(d, .c (.lit (.int .i64 a)))] := by
 have := step_convert (P := P) (n := n) (nid := nid) (S := S) (T := T) (ty := ty) (pos := pos) (aft := aft) (g := g) hx hd
 rwa [wrap_fits h] at this
theorem step_neg (hx : Lit st x (.int k a)) (hd : n d = true) : Step P n ⟨some d, .unOp .neg T x, ty, pos, aft, g⟩ nid st (rdOf x) [(d, .c (.lit (.int k (k.wrap (0 - a)))))] := by
 have := step_pure (P := P) (n := n) (nid := nid) (st := st) (o := ⟨some d, .unOp .neg T x, ty, pos, aft, g⟩) (d := d) (u := .int k (k.wrap (0 - a))) [(x, .int k a)] rfl hd rfl (by simpa using hx) (fun ev w hev => by
  have e1 := hev (x, .int k a) (by simp)
  simp only at e1
  simp [execOp, e1, Op.unary, Op.intArith])
 simpa using this
theorem step_neg_in (hx : Lit st x (.int .i64 a)) (h : fits (-a)) (hd : n d = true) : Step P n ⟨some d, .unOp .neg T x, ty, pos, aft, g⟩ nid st (rdOf x) [(d, .c (.lit (.int .i64 (-a))))] := by
 have := step_neg (P := P) (n := n) (nid := nid) (T := T) (ty := ty) (pos := pos) (aft := aft) (g := g) hx hd
 rwa [Int.zero_sub, wrap_fits h] at this
end ints
section bools
variable {d : Nat} {T T' : TypeId} {x y z : Operand} {b : Bool} {ty : TypeId} {pos : String} {aft : Array Edge} {g : Option (Nat × Bool)}
theorem step_not (hx : Lit st x (.bool b)) (hd : n d = true) : Step P n ⟨some d, .unOp .not T x, ty, pos, aft, g⟩ nid st (rdOf x) [(d, .c (.lit (.bool (!b))))] := by
 have := step_pure (P := P) (n := n) (nid := nid) (st := st) (o := ⟨some d, .unOp .not T x, ty, pos, aft, g⟩) (d := d) (u := .bool (!b)) [(x, .bool b)] rfl hd rfl (by simpa using hx) (fun ev w hev => by
  have e1 := hev (x, .bool b) (by simp)
  simp only at e1
  simp [execOp, e1, Op.unary])
 simpa using this
theorem step_pick_true {v : Value} (hx : Lit st x (.bool true)) (hy : Lit st y v) (hv : v.oneCell' = true) (hd : n d = true) : Step P n ⟨some d, .pick x y z, ty, pos, aft, g⟩ nid st (rdOf x ++ rdOf y) [(d, .c (.lit v))] := by
 have := step_pure (P := P) (n := n) (nid := nid) (st := st) (o := ⟨some d, .pick x y z, ty, pos, aft, g⟩) (d := d) (u := v) [(x, .bool true), (y, v)] rfl hd hv (by simpa using ⟨hx, hy⟩) (fun ev w hev => by
  have e1 := hev (x, .bool true) (by simp)
  have e2 := hev (y, v) (by simp)
  simp only at e1 e2
  simp [execOp, e1, e2, asBool])
 simpa using this
theorem step_pick_false {v : Value} (hx : Lit st x (.bool false)) (hz : Lit st z v) (hv : v.oneCell' = true) (hd : n d = true) : Step P n ⟨some d, .pick x y z, ty, pos, aft, g⟩ nid st (rdOf x ++ rdOf z) [(d, .c (.lit v))] := by
 have := step_pure (P := P) (n := n) (nid := nid) (st := st) (o := ⟨some d, .pick x y z, ty, pos, aft, g⟩) (d := d) (u := v) [(x, .bool false), (z, v)] rfl hd hv (by simpa using ⟨hx, hz⟩) (fun ev w hev => by
  have e1 := hev (x, .bool false) (by simp)
  have e2 := hev (z, v) (by simp)
  simp only at e1 e2
  simp [execOp, e1, e2, asBool])
 simpa using this
end bools
theorem step_move_whole {o : Oper} {d t : Nat} {av : AV} (hop : o.op = .move (.tmp t) ∨ o.op = .assign (.tmp t)) (hdst : o.dst = some d) (h : st t = av) (_hav : (match av with | .tup _ | .agg _ | .raw _ => true | _ => false) = true) (hd : n d = true) (_hdt : d ≠ t) :
  Step P n o nid st [t] [(t, .dead), (d, av)] := by
 intro X st' hs hX f a w hn hrep K Q hK
 obtain ⟨ρ, L, hr⟩ := hrep
 subst hn
 have ht : st' t = av := (hs t (by simp)).trans h
 have hv := hr.slots t
 have hi := hr.ids t
 rw [ht] at hv hi
 have hm := hr.toM.detach t .dead [] (L t) (by simp only [SR]) (by simp [AV.ids]) (fun g hg => by simpa using hg) List.nodup_nil (hr.nodup t) (by simp)
 rw [List.nil_append] at hm
 refine wV_ (u := tmp a t) (w' := w) ?_ ?_
 ·rcases hop with e | e <;> simp only [execOp, e] <;> rfl
 ·rw [hdst]
  exact hm.put_raw (av := av) hK hd _ w [] (by simp) (Keep.refl w) (L t) hv (hr.nodup t) (fun g hg => ⟨(hr.bound t g hg).1, .inl hg⟩) hi
theorem step_assign_agg {d t : Nat} {l : List AV} {ty pos aft g} (h : st t = .agg l) (hd : n d = true) (hdt : d ≠ t) : Step P n ⟨some d, .assign (.tmp t), ty, pos, aft, g⟩ nid st [t] [(t, .dead), (d, .agg l)] :=
 step_move_whole (.inr rfl) rfl h rfl hd hdt
theorem SRs.at {F : Nat → Prop} {w : World} {ρ : Nat → Rho} : ∀ (l : List AV) (vs : List Value) (L : List Nat), SRs F w ρ l vs L → ∀ (j : Nat) (x : AV), l[j]? = some x → ∃ u A L1 B, vs[j]? = some u ∧ L = A ++ (L1 ++ B) ∧ SR F w ρ x u L1 ∧ SRs F w ρ (l.set j .dead) vs (A ++ B)
 | [], _, _, _, j, x, hx => by simp at hx
 | y :: l, vs, L, h, 0, x, hx => by
  simp only [SRs] at h
  obtain ⟨v, vs', L1, L2, rfl, rfl, h1, h2⟩ := h
  simp only [List.getElem?_cons_zero, Option.some.injEq] at hx
  subst hx
  refine ⟨v, [], L1, L2, rfl, rfl, h1, ?_⟩
  simp only [List.set_cons_zero, SRs]
  exact ⟨v, vs', [], L2, rfl, rfl, by simp only [SR], h2⟩
 | y :: l, vs, L, h, j + 1, x, hx => by
  simp only [SRs] at h
  obtain ⟨v, vs', L1, L2, rfl, rfl, h1, h2⟩ := h
  simp only [List.getElem?_cons_succ] at hx
  obtain ⟨u, A, M, B, hu, rfl, hM, hrest⟩ := SRs.at l vs' L2 h2 j x hx
  refine ⟨u, L1 ++ A, M, B, by simpa using hu, by simp, hM, ?_⟩
  simp only [List.set_cons_succ, SRs]
  exact ⟨v, vs', L1, A ++ B, rfl, by simp, h1, hrest⟩
theorem run_extract {vs : List Value} {j : Nat} {u : Value} (h : vs[j]? = some u) (w : World) : (Instr.extract (.tuple vs.toArray) j).run P w = .ok u w := by
 simp [Instr.extract, h]
theorem idss_mem {l : List AV} {j : Nat} {x : AV} (h : l[j]? = some x) : ∀ i ∈ x.ids, i ∈ AV.idss l := by
 induction l generalizing j with
 | nil => simp at h
 | cons y l ih =>
  intro i hi
  cases j with
  | zero => simp only [List.getElem?_cons_zero, Option.some.injEq] at h; subst h; simp [AV.idss, hi]
  | succ j => simp only [List.getElem?_cons_succ] at h; simp [AV.idss, ih h i hi]
theorem idss_set {l : List AV} {j : Nat} : ∀ i ∈ AV.idss (l.set j .dead), i ∈ AV.idss l := by
 induction l generalizing j with
 | nil => simp
 | cons y l ih =>
  intro i hi
  cases j with
  | zero => simp only [List.set_cons_zero, AV.idss, AV.ids, List.nil_append] at hi; simp [AV.idss, hi]
  | succ j =>
   simp only [List.set_cons_succ, AV.idss, List.mem_append] at hi ⊢
   rcases hi with hi | hi
   ·exact .inl hi
   ·exact .inr (ih i hi)
theorem step_extract_c {d t j : Nat} {l : List AV} {dd : D} {ty pos aft g} (h : st t = .tup l) (hj : l[j]? = some (.c dd)) (hd : n d = true) :
  Step P n ⟨some d, .extract (.tmp t) j, ty, pos, aft, g⟩ nid st [t] [(d, .c dd)] := by
 intro X st' hs hX f a w hn hrep K Q hK
 obtain ⟨ρ, L, hr⟩ := hrep
 subst hn
 have ht := hr.slots t
 rw [(hs t (by simp)).trans h] at ht
 simp only [SR] at ht
 obtain ⟨vs, e0, hv⟩ := ht
 obtain ⟨u, A, L1, B, hu, _, hx, _⟩ := SRs.at l vs _ hv j _ hj
 refine wV_ (u := u) (w' := w) ?_ (hr.done_light hK hd _ w (Keep.refl w) (by simp only [SR] at hx ⊢; exact ⟨trivial, hx.2⟩) (by simp [AV.ids]))
 have e1 : a.eval (.tmp t) = _ := e0
 simp only [execOp, e1, Sem.run_bind, run_extract hu, Result.andThen_ok, Sem.run_pure]
theorem step_extract_own {d t j : Nat} {l : List AV} {dd : D} {ty pos aft g} (h : st t = .tup l) (hj : l[j]? = some (.raw dd)) (hd : n d = true) :
  Step P n ⟨some d, .extract (.tmp t) j, ty, pos, aft, g⟩ nid st [t] [(t, .tup (l.set j .dead)), (d, .own nid dd)] := by
 intro X st' hs hX f a w hn hrep K Q hK
 obtain ⟨ρ, L, hr⟩ := hrep
 subst hn
 have ht := hr.slots t
 have hi := hr.ids t
 rw [(hs t (by simp)).trans h] at ht hi
 simp only [SR] at ht
 obtain ⟨vs, e0, hv⟩ := ht
 obtain ⟨u, A, L1, B, hu, eL, hx, hrest⟩ := SRs.at l vs _ hv j _ hj
 simp only [SR] at hx
 obtain ⟨r, hx⟩ := hx
 have hnd := hr.nodup t
 rw [eL] at hnd
 simp only [List.nodup_append, List.mem_append] at hnd
 have hm := hr.toM.detach t (.tup (l.set j .dead)) (A ++ B) L1 (by simp only [SR]; exact ⟨vs, e0, hrest⟩) (fun i hi' => hi i (by simp only [AV.ids] at hi' ⊢; exact idss_set i hi')) (fun g hg => by rw [eL]; simp only [List.mem_append] at hg ⊢; grind) (by simp only [List.nodup_append]; grind) hnd.2.1.1 (fun g hg hg' => by simp only [List.mem_append] at hg; grind)
 rw [List.nil_append] at hm
 refine wV_ (u := u) (w' := w) ?_ (hm.put_root (K := K) (d := d) hK hd hX _ w [] (by simp) (Keep.refl w) r L1 hx hm.nd (fun g hg => ⟨(hm.bound g hg).1, .inl hg⟩))
 have e1 : a.eval (.tmp t) = _ := e0
 simp only [execOp, e1, Sem.run_bind, run_extract hu, Result.andThen_ok, Sem.run_pure]
theorem step_extract_agg {d t j : Nat} {l l' : List AV} {ty pos aft g} (h : st t = .tup l) (hj : l[j]? = some (.agg l')) (hd : n d = true) :
  Step P n ⟨some d, .extract (.tmp t) j, ty, pos, aft, g⟩ nid st [t] [(t, .tup (l.set j .dead)), (d, .agg l')] := by
 intro X st' hs hX f a w hn hrep K Q hK
 obtain ⟨ρ, L, hr⟩ := hrep
 subst hn
 have ht := hr.slots t
 have hi := hr.ids t
 rw [(hs t (by simp)).trans h] at ht hi
 simp only [SR] at ht
 obtain ⟨vs, e0, hv⟩ := ht
 obtain ⟨u, A, L1, B, hu, eL, hx, hrest⟩ := SRs.at l vs _ hv j _ hj
 have hnd := hr.nodup t
 rw [eL] at hnd
 simp only [List.nodup_append, List.mem_append] at hnd
 have hm := hr.toM.detach t (.tup (l.set j .dead)) (A ++ B) L1 (by simp only [SR]; exact ⟨vs, e0, hrest⟩) (fun i hi' => hi i (by simp only [AV.ids] at hi' ⊢; exact idss_set i hi')) (fun g hg => by rw [eL]; simp only [List.mem_append] at hg ⊢; grind) (by simp only [List.nodup_append]; grind) hnd.2.1.1 (fun g hg hg' => by simp only [List.mem_append] at hg; grind)
 rw [List.nil_append] at hm
 refine wV_ (u := u) (w' := w) ?_ (hm.put_raw (K := K) (d := d) (id := nid) hK hd _ w [] (by simp) (Keep.refl w) L1 hx hm.nd (fun g hg => ⟨(hm.bound g hg).1, .inl hg⟩) (fun i hi' => hi i (by simp only [AV.ids] at hi' ⊢; exact idss_mem hj i (by simpa [AV.ids] using hi'))))
 have e1 : a.eval (.tmp t) = _ := e0
 simp only [execOp, e1, Sem.run_bind, run_extract hu, Result.andThen_ok, Sem.run_pure]
def lightOf : AV → AV
 | .c d => .c d
 | _ => .dead
theorem lights_sr {F : Nat → Prop} {w : World} {ρ : Nat → Rho} : ∀ {l : List AV} {vs : List Value} {L : List Nat}, SRs F w ρ l vs L → SRs F w ρ (l.map lightOf) vs []
 | [], vs, L, h => by simp only [SRs] at h; simp only [List.map_nil, SRs]; exact ⟨h.1, trivial⟩
 | x :: l, vs, L, h => by
  simp only [SRs] at h
  obtain ⟨v, vs', L1, L2, rfl, rfl, h1, h2⟩ := h
  simp only [List.map_cons, SRs]
  refine ⟨v, vs', [], [], rfl, rfl, ?_, lights_sr h2⟩
  cases x <;> simp only [lightOf, SR] at h1 ⊢
  exact ⟨trivial, h1.2⟩
theorem lights_ids : ∀ (l : List AV), AV.idss (l.map lightOf) = []
 | [] => rfl
 | x :: l => by
  simp only [List.map_cons, AV.idss, lights_ids l, List.append_nil]
  cases x <;> rfl
theorem step_move_tupn {d t : Nat} {l : List AV} {ty pos aft g} (h : st t = .tup l) (hd : n d = true) (hdt : d ≠ t) :
  Step P n ⟨some d, .move (.tmp t), ty, pos, aft, g⟩ nid st [t] [(t, .tupn nid l), (d, .tupr t nid (l.map lightOf))] := by
 intro X st' hs hX f a w hn hrep K Q hK
 obtain ⟨ρ, L, hr⟩ := hrep
 subst hn
 have ht : st' t = _ := (hs t (by simp)).trans h
 have hv := hr.slots t
 have hi := hr.ids t
 rw [ht] at hv hi
 simp only [SR] at hv
 obtain ⟨vs, e0, hv⟩ := hv
 have hfin : ∀ i, X i → (fun i => if i = nid then (fun _ => tmp a t) else ρ i : Nat → Rho) i = ρ i := fun i hi' => by simp only; rw [if_neg (by rintro rfl; exact hX hi')]
 have hv' : SRs f.F w (fun i => if i = nid then (fun _ => tmp a t) else ρ i) l vs (L t) := SRs.same (fun _ h => h) (fun _ _ => rfl) l vs _ hv (fun _ _ => rfl) (fun i hi' => hfin i (hi i (by simpa [AV.ids] using hi')))
 refine wV_ (u := tmp a t) (w' := w) rfl (hK _ _ ⟨fun i => if i = nid then (fun _ => tmp a t) else ρ i, fun s => if s = d then [] else L s, ?_⟩)
 refine hr.step (fun s => s = d ∨ s = t) [] _ _ _ w _ _ (put_defers _ _ _) (put_size _ _ _) (hold_put _ hd) (Keep.refl w) (by simp) hfin
  (fun s hs' => ?_) (fun s hs' => ?_) (fun s u hs' hu hne g hg hgu => ?_) (fun _ h => .inl h) (fun s hs' i hi' => ?_)
 ·have h1 : s ≠ d := fun e => hs' (.inl e)
  have h2 : s ≠ t := fun e => hs' (.inr e)
  exact ⟨by simp [puts, put, h1, h2], tmp_put_other _ _ _ _ h1, by simp [h1]⟩
 ·rcases hs' with rfl | rfl
  ·simp only [puts, put_same, tmp_put_same _ _ _ (hr.size _ hd), if_true, SR]
   exact ⟨⟨trivial, vs, e0, lights_sr hv'⟩, List.nodup_nil, fun g hg => by simp at hg⟩
  ·simp only [puts, put_other _ _ _ _ hdt.symm, put_same, if_neg hdt.symm, SR, tmp_put_other _ _ _ _ hdt.symm, if_true]
   exact ⟨⟨trivial, vs, e0, hv'⟩, hr.nodup s, fun g hg => ⟨(hr.bound s g hg).1, .inl ⟨s, .inr rfl, hg⟩⟩⟩
 ·rcases hs' with rfl | rfl <;> rcases hu with rfl | rfl
  ·exact hne rfl
  ·simp at hg
  ·simp at hgu
  ·exact hne rfl
 ·rcases hs' with rfl | rfl
  ·simp only [puts, put_same, AV.ids, lights_ids, List.mem_singleton] at hi'; exact .inr hi'
  ·simp only [puts, put_other _ _ _ _ hdt.symm, put_same, AV.ids, List.mem_cons] at hi'
   rcases hi' with rfl | hi'
   ·exact .inr rfl
   ·exact .inl (hi i (by simpa [AV.ids] using hi'))
theorem step_extract_ref_c {d t x id j : Nat} {l : List AV} {dd : D} {ty pos aft g} (h : st t = .tupr x id l) (hj : l[j]? = some (.c dd)) (hd : n d = true) :
  Step P n ⟨some d, .extract (.tmp t) j, ty, pos, aft, g⟩ nid st [t] [(d, .c dd)] := by
 intro X st' hs hX f a w hn hrep K Q hK
 obtain ⟨ρ, L, hr⟩ := hrep
 subst hn
 have ht := hr.slots t
 rw [(hs t (by simp)).trans h] at ht
 simp only [SR] at ht
 obtain ⟨_, vs, e0, hv⟩ := ht
 obtain ⟨u, A, L1, B, hu, _, hx, _⟩ := SRs.at l vs _ hv j _ hj
 refine wV_ (u := u) (w' := w) ?_ (hr.done_light hK hd _ w (Keep.refl w) (by simp only [SR] at hx ⊢; exact ⟨trivial, hx.2⟩) (by simp [AV.ids]))
 have e1 : a.eval (.tmp t) = _ := e0
 simp only [execOp, e1, Sem.run_bind, run_extract hu, Result.andThen_ok, Sem.run_pure]
theorem step_extract_ref_own {d t x id j : Nat} {l l2 : List AV} {dd : D} {ty pos aft g} (h : st t = .tupr x id l) (h2 : st x = .tupn id l2) (hj : l2[j]? = some (.raw dd)) (hd : n d = true) :
  Step P n ⟨some d, .extract (.tmp t) j, ty, pos, aft, g⟩ nid st [t, x] [(x, .tupn id (l2.set j .dead)), (d, .own nid dd)] := by
 intro X st' hs hX f a w hn hrep K Q hK
 obtain ⟨ρ, L, hr⟩ := hrep
 subst hn
 have h0 := hr.slots t
 rw [(hs t (by simp)).trans h] at h0
 simp only [SR] at h0
 obtain ⟨ev, _⟩ := h0
 have ht := hr.slots x
 have hi := hr.ids x
 rw [(hs x (by simp)).trans h2] at ht hi
 simp only [SR] at ht
 obtain ⟨en, vs, e0, hv⟩ := ht
 obtain ⟨u, A, L1, B, hu, eL, hx, hrest⟩ := SRs.at l2 vs _ hv j _ hj
 simp only [SR] at hx
 obtain ⟨r, hx⟩ := hx
 have hnd := hr.nodup x
 rw [eL] at hnd
 simp only [List.nodup_append, List.mem_append] at hnd
 have hm := hr.toM.detach x (.tupn id (l2.set j .dead)) (A ++ B) L1 (by simp only [SR]; exact ⟨en, vs, e0, hrest⟩) (fun i hi' => hi i (by simp only [AV.ids, List.mem_cons] at hi' ⊢; exact hi'.imp_right (idss_set i))) (fun g hg => by rw [eL]; simp only [List.mem_append] at hg ⊢; grind) (by simp only [List.nodup_append]; grind) hnd.2.1.1 (fun g hg hg' => by simp only [List.mem_append] at hg; grind)
 rw [List.nil_append] at hm
 refine wV_ (u := u) (w' := w) ?_ (hm.put_root (K := K) (d := d) hK hd hX _ w [] (by simp) (Keep.refl w) r L1 hx hm.nd (fun g hg => ⟨(hm.bound g hg).1, .inl hg⟩))
 have e1 : a.eval (.tmp t) = .tuple vs.toArray := by
  have : a.eval (.tmp t) = ρ id [] := ev
  rw [this, ← en, e0]
 simp only [execOp, e1, Sem.run_bind, run_extract hu, Result.andThen_ok, Sem.run_pure]
theorem step_extract_ref_agg {d t x id j : Nat} {l l2 l' : List AV} {ty pos aft g} (h : st t = .tupr x id l) (h2 : st x = .tupn id l2) (hj : l2[j]? = some (.agg l')) (hd : n d = true) :
  Step P n ⟨some d, .extract (.tmp t) j, ty, pos, aft, g⟩ nid st [t, x] [(x, .tupn id (l2.set j .dead)), (d, .agg l')] := by
 intro X st' hs hX f a w hn hrep K Q hK
 obtain ⟨ρ, L, hr⟩ := hrep
 subst hn
 have h0 := hr.slots t
 rw [(hs t (by simp)).trans h] at h0
 simp only [SR] at h0
 obtain ⟨ev, _⟩ := h0
 have ht := hr.slots x
 have hi := hr.ids x
 rw [(hs x (by simp)).trans h2] at ht hi
 simp only [SR] at ht
 obtain ⟨en, vs, e0, hv⟩ := ht
 obtain ⟨u, A, L1, B, hu, eL, hx, hrest⟩ := SRs.at l2 vs _ hv j _ hj
 have hnd := hr.nodup x
 rw [eL] at hnd
 simp only [List.nodup_append, List.mem_append] at hnd
 have hm := hr.toM.detach x (.tupn id (l2.set j .dead)) (A ++ B) L1 (by simp only [SR]; exact ⟨en, vs, e0, hrest⟩) (fun i hi' => hi i (by simp only [AV.ids, List.mem_cons] at hi' ⊢; exact hi'.imp_right (idss_set i))) (fun g hg => by rw [eL]; simp only [List.mem_append] at hg ⊢; grind) (by simp only [List.nodup_append]; grind) hnd.2.1.1 (fun g hg hg' => by simp only [List.mem_append] at hg; grind)
 rw [List.nil_append] at hm
 refine wV_ (u := u) (w' := w) ?_ (hm.put_raw (K := K) (d := d) (id := nid) hK hd _ w [] (by simp) (Keep.refl w) L1 hx hm.nd (fun g hg => ⟨(hm.bound g hg).1, .inl hg⟩) (fun i hi' => hi i (by simp only [AV.ids, List.mem_cons] at hi' ⊢; exact .inr (idss_mem hj i (by simpa [AV.ids] using hi')))))
 have e1 : a.eval (.tmp t) = .tuple vs.toArray := by
  have : a.eval (.tmp t) = ρ id [] := ev
  rw [this, ← en, e0]
 simp only [execOp, e1, Sem.run_bind, run_extract hu, Result.andThen_ok, Sem.run_pure]
end
end Go.Pv
namespace Go.Pv
open Go.RowKit
section
variable {P : Program} {n : NN} {nid : Nat} {st : Nat → AV} {nx : Nat}
theorem put_eq_self {st : Nat → AV} {t : Nat} {v : AV} (h : st t = v) : put st t v = st := by
 funext s; unfold put; split
 ·rename_i e; subst e; exact h.symm
 ·rfl
theorem int_eq {k : IntKind} {a b : Int} (h : a = b) : AV.c (.lit (.int k a)) = AV.c (.lit (.int k b)) := by rw [h]
theorem bool_eq {a b : Bool} (h : a = b) : AV.c (.lit (.bool a)) = AV.c (.lit (.bool b)) := by rw [h]
def lits (l : List Value) : List D := l.map D.lit
theorem eL_ (l : List Value) : D.erases (lits l) = lits l := by
 unfold lits; rw [D.erases_eq]; simp [D.erase]
theorem solids_lits (l : List Value) : D.solids (lits l) = true := by
 unfold lits
 induction l with
 | nil => rfl
 | cons v l ih => simpa [D.solids, D.solid] using ih
variable {Q : Exit → (Nat → AV) → Nat → Prop}
theorem WpA.cond_true {c : Operand} {x y : Code} (hc : Lit st c (.bool true)) (h : WpA P n x st nx Q) : WpA P n (.cond c x y) st nx Q :=
 WpA.cond hc (fun _ => h) (fun h => by cases h)
theorem WpA.cond_false {c : Operand} {x y : Code} (hc : Lit st c (.bool false)) (h : WpA P n y st nx Q) : WpA P n (.cond c x y) st nx Q :=
 WpA.cond hc (fun h => by cases h) (fun _ => h)
theorem WpA.cond_ntrue {c : Operand} {x y : Code} (hc : Lit st c (.bool (!true))) (h : WpA P n y st nx Q) : WpA P n (.cond c x y) st nx Q :=
 WpA.cond hc (fun h => by cases h) (fun _ => h)
theorem WpA.cond_dec {c : Operand} {x y : Code} {p : Prop} {hp : Decidable p} (hc : Lit st c (.bool (@decide p hp))) (h1 : p → WpA P n x st nx Q) (h2 : ¬ p → WpA P n y st nx Q) : WpA P n (.cond c x y) st nx Q :=
 WpA.cond hc (fun h => h1 (of_decide_eq_true h)) (fun h => h2 (of_decide_eq_false h))
theorem WpA.cond_not {c : Operand} {x y : Code} {p : Prop} {hp : Decidable p} (hc : Lit st c (.bool (!@decide p hp))) (h1 : ¬ p → WpA P n x st nx Q) (h2 : p → WpA P n y st nx Q) : WpA P n (.cond c x y) st nx Q :=
 WpA.cond hc (fun h => h1 (of_decide_eq_false (by simpa using h))) (fun h => h2 (of_decide_eq_true (by simpa using h)))
def Done (P : Program) (fn : Func) (args : List Arg) (rs : List V) (outs : List D) (e : Exit) (s : Nat → AV) (_ : Nat) : Prop :=
 (e = .normal ∨ e = .ret) ∧ ∃ s', Ress P s fn.results.toList rs s' ∧ Outs s' 0 args outs
theorem Done.ret {fn : Func} {args : List Arg} {rs rs' : List V} {outs outs' : List D} {s s' : Nat → AV} {k : Nat} (hr : Ress P s fn.results.toList rs' s') (ho : Outs s' 0 args outs') (h : rs' = rs) (h' : outs' = outs) : Done P fn args rs outs .ret s k := by
 subst h h'; exact ⟨.inr rfl, s', hr, ho⟩
theorem Done.normal {fn : Func} {args : List Arg} {rs rs' : List V} {outs outs' : List D} {s s' : Nat → AV} {k : Nat} (hr : Ress P s fn.results.toList rs' s') (ho : Outs s' 0 args outs') (h : rs' = rs) (h' : outs' = outs) : Done P fn args rs outs .normal s k := by
 subst h h'; exact ⟨.inl rfl, s', hr, ho⟩
theorem cA_ {K : FuncId} {fn : Func} {c : Code} {args : List Arg} {rs : List V} {outs : List D} (m : Nat) (hf : P.funcs[K]? = some fn) (hb : fn.body = some c) (hm : fn.ntmps = m)
  (hs : rs.all V.solid = true ∧ D.solids outs = true) (h : WpA P ⟨fun d => decide (d < m) && !((heldOf 0 args).contains d), [], [], []⟩ c (initSt args) args.length (Done P fn args rs outs)) : CallA P K args rs outs :=
 callG_of (n := ⟨fun d => decide (d < m) && !((heldOf 0 args).contains d), [], [], []⟩) hf hb (fun d hd => by
  rw [hm]; simp only [Bool.and_eq_true, decide_eq_true_eq] at hd; exact hd.1) (fun p hp => by simp [hp]) rfl rfl (.inl ⟨rfl, rfl⟩) (fun _ => hs) h
theorem callS_of {K : FuncId} {fn : Func} {c : Code} {args : List Arg} {rs : List V} {outs : List D} (m : Nat) (hf : P.funcs[K]? = some fn) (hb : fn.body = some c) (hm : fn.ntmps = m)
  (h : WpA P ⟨fun d => decide (d < m) && !((heldOf 0 args).contains d), [], [], mark0⟩ c (initSt args) args.length (Done P fn args rs outs)) : CallS P K args rs outs :=
 callG_of (n := ⟨fun d => decide (d < m) && !((heldOf 0 args).contains d), [], [], mark0⟩) hf hb (fun d hd => by
  rw [hm]; simp only [Bool.and_eq_true, decide_eq_true_eq] at hd; exact hd.1) (fun p hp => by simp [hp]) rfl rfl (.inr rfl) (fun h => by cases h) h
theorem step_move_als {d t x id : Nat} {path : List Nat} {ty pos aft g} (h : st t = .als x id path) (hd : n d = true) : Step P n ⟨some d, .move (.tmp t), ty, pos, aft, g⟩ nid st [t] [(d, .als x id path)] := step_move_light h rfl hd
theorem step_move_sub {d t x id sz lo m : Nat} {path : List Nat} {ty pos aft g} (h : st t = .sub x id path sz lo m) (hd : n d = true) : Step P n ⟨some d, .move (.tmp t), ty, pos, aft, g⟩ nid st [t] [(d, .sub x id path sz lo m)] := step_move_light h rfl hd
theorem step_move_ptr {d t x id off : Nat} {path : List Nat} {ty pos aft g} (h : st t = .ptr x id path off) (hd : n d = true) : Step P n ⟨some d, .move (.tmp t), ty, pos, aft, g⟩ nid st [t] [(d, .ptr x id path off)] := step_move_light h rfl hd
theorem step_move_sptr {d t off : Nat} {cs : List D} {ty pos aft g} (h : st t = .sptr cs off) (hd : n d = true) : Step P n ⟨some d, .move (.tmp t), ty, pos, aft, g⟩ nid st [t] [(d, .sptr cs off)] := step_move_light h rfl hd
theorem step_assign_als {d t x id : Nat} {path : List Nat} {ty pos aft g} (h : st t = .als x id path) (hd : n d = true) : Step P n ⟨some d, .assign (.tmp t), ty, pos, aft, g⟩ nid st [t] [(d, .als x id path)] := step_assign_light h rfl hd
theorem step_assign_sub {d t x id sz lo m : Nat} {path : List Nat} {ty pos aft g} (h : st t = .sub x id path sz lo m) (hd : n d = true) : Step P n ⟨some d, .assign (.tmp t), ty, pos, aft, g⟩ nid st [t] [(d, .sub x id path sz lo m)] := step_assign_light h rfl hd
theorem step_assign_ptr {d t x id off : Nat} {path : List Nat} {ty pos aft g} (h : st t = .ptr x id path off) (hd : n d = true) : Step P n ⟨some d, .assign (.tmp t), ty, pos, aft, g⟩ nid st [t] [(d, .ptr x id path off)] := step_assign_light h rfl hd
theorem step_assign_sptr {d t off : Nat} {cs : List D} {ty pos aft g} (h : st t = .sptr cs off) (hd : n d = true) : Step P n ⟨some d, .assign (.tmp t), ty, pos, aft, g⟩ nid st [t] [(d, .sptr cs off)] := step_assign_light h rfl hd
theorem step_assign_nil {d sz : Nat} {T : TypeId} {pos aft g} [SliceTy P T sz] (hd : n d = true) : Step P n ⟨some d, .assign (.const (.slice none 0 0)), T, pos, aft, g⟩ nid st [] [(d, .own nid (.sl true sz []))] :=
 step_assign_take .nil hd
end
end Go.Pv
namespace Go.Pv
open Go.RowKit
inductive Pts (st : Nat → AV) : Nat → List Nat → Nat → Nat → D → List Nat → Nat → Prop
 | ptr {t x id path off dd} : st t = .ptr x id path off → st x = .own id dd → Pts st t [t, x] x id dd path off
 | root {t id cs} : st t = .own id (.pt true cs) → Pts st t [t] t id (.pt true cs) [] 0
section
variable {P : Program} {n : NN} {nid : Nat} {st : Nat → AV} {f : Fr} {X : Nat → Prop} {a : Act} {w : World} {ρ : Nat → Rho} {L : Nat → List Nat} {M : List Nat}
theorem Pts.mem {t x id off : Nat} {rd path : List Nat} {dd : D} (h : Pts st t rd x id dd path off) : x ∈ rd := by cases h <;> simp
theorem Pts.own {t x id off : Nat} {rd path : List Nat} {dd : D} (h : Pts st t rd x id dd path off) : st x = .own id dd := by cases h <;> assumption
theorem Pts.agree {st' : Nat → AV} {t x id off : Nat} {rd path : List Nat} {dd : D} (h : Pts st t rd x id dd path off) (hs : ∀ s ∈ rd, st' s = st s) : Pts st' t rd x id dd path off := by
 cases h with
 | ptr h1 h2 => exact .ptr ((hs _ (by simp)).trans h1) ((hs _ (by simp)).trans h2)
 | root h1 => exact .root ((hs _ (by simp)).trans h1)
theorem Pts.addr (hr : RepO f X st a w ρ L) {t x id off : Nat} {rd path : List Nat} {dd : D} (h : Pts st t rd x id dd path off) : X id ∧ ∃ b, baseOf (ρ id path) = some b ∧ a.eval (.tmp t) = .pointer (some (b.add off)) := by
 cases h with
 | ptr h1 h2 =>
  have ht := hr.slots t
  have hi := hr.ids t id (by rw [h1]; simp [AV.ids])
  rw [h1] at ht
  simp only [SR] at ht
  obtain ⟨_, b, hb, e⟩ := ht
  exact ⟨hi, b, hb, e⟩
 | root h1 =>
  have ht := hr.slots t
  have hi := hr.ids t id (by rw [h1]; simp [AV.ids])
  rw [h1] at ht
  simp only [SR, RD] at ht
  obtain ⟨e, g, us, L1, ty, e1, _⟩ := ht
  refine ⟨hi, ⟨g, 0, none⟩, by rw [← e, e1]; rfl, ?_⟩
  show tmp a t = _
  rw [e1, add_zero']
theorem step_load_p {d t x id off : Nat} {rd path : List Nat} {T : TypeId} {dd d1 : D} {cs : List D} {c : D} {ty pos aft g} [OneTy P T] (h : Pts st t rd x id dd path off) (hn' : dd.nav path = some d1) (hk : d1.kids = some cs) (hc : cs[off]? = some c) (hd : n d = true) :
  Step P n ⟨some d, .load T (.tmp t), ty, pos, aft, g⟩ nid st rd [(d, cellAV x id (path ++ [off]) c)] := by
 intro X st' hs hX f a w hn hrep K Q hK
 obtain ⟨ρ, L, hr⟩ := hrep
 subst hn
 have h' := h.agree hs
 obtain ⟨hid, b, hb, e0⟩ := h'.addr hr
 obtain ⟨g0, o0, us, L1, hb', hg, hL1, h5, h6, _⟩ := hr.partKids h'.own hn' hk (by rintro rfl; simp at hc)
 rw [hb] at hb'
 simp only [Option.some.injEq] at hb'
 subst hb'
 obtain ⟨u, A, M, B, hu, e, h7, _⟩ := RDs.at cs 0 _ us L1 h5 off c hc
 refine wV_ (u := u) (w' := w) ?_ (hr.done_light hK hd _ w (Keep.refl w) (SR_cellAV h7 ?_) (fun i hi => ?_))
 ·rw [addr_off] at e0
  simp only [execOp, e0, Sem.run_bind, run_load_one w _ u (h6 off u hu), Result.andThen_ok, Sem.run_pure]
 ·simp [Rho.at, Rho.sub]
 ·rw [cellAV_ids i hi]; exact hid
theorem step_load_root {d t id : Nat} {T : TypeId} {c : D} {cs : List D} {ty pos aft g} [OneTy P T] (h : st t = .own id (.pt true (c :: cs))) (hd : n d = true) :
  Step P n ⟨some d, .load T (.tmp t), ty, pos, aft, g⟩ nid st [t] [(d, cellAV t id [0] c)] := step_load_p (.root h) rfl rfl rfl hd
theorem step_loads_p {d t x id off sz : Nat} {rd path : List Nat} {T : TypeId} {dd d1 : D} {cs : List D} {ty pos aft g} [StructTy P T sz] (h : Pts st t rd x id dd path off) (hn' : dd.nav path = some d1) (hk : d1.kids = some cs) (hc : off + sz ≤ cs.length) (hz : 0 < sz) (hd : n d = true) :
  Step P n ⟨some d, .load T (.tmp t), ty, pos, aft, g⟩ nid st rd [(d, .agg (cellAVs x id path off ((cs.drop off).take sz)))] := by
 intro X st' hs hX f a w hn hrep K Q hK
 obtain ⟨ρ, L, hr⟩ := hrep
 subst hn
 have h' := h.agree hs
 obtain ⟨hid, b, hb, e0⟩ := h'.addr hr
 obtain ⟨g0, o0, us, L1, hb', hg, hL1, h5, h6, _⟩ := hr.partKids h'.own hn' hk (by rintro rfl; simp at hc; omega)
 rw [hb] at hb'
 simp only [Option.some.injEq] at hb'
 subst hb'
 have hl := h5.length
 obtain ⟨M', h7⟩ := RDs.part off cs 0 _ us L1 h5 (by omega)
 obtain ⟨M2, h8⟩ := RDs.takeM sz _ _ _ _ _ h7
 rw [Nat.zero_add] at h8
 refine wV_ (u := .agg ((us.drop off).take sz).toArray) (w' := w) ?_ (hr.done_light hK hd _ w (Keep.refl w) ?_ (fun i hi => ?_))
 ·simp only [execOp, e0, Sem.run_bind]
  rw [run_load_struct (T := T) w _ ((us.drop off).take sz) (by rw [List.length_take, List.length_drop]; omega) (fun j u hu => ?_)]
  ·rfl
  ·rw [List.getElem?_take] at hu
   split at hu
   ·rw [List.getElem?_drop] at hu
    rw [add_add, addr_off]
    exact h6 _ u hu
   ·cases hu
 ·simp only [SR]
  exact ⟨_, rfl, SRs_cells _ _ _ _ _ h8 (fun j => by simp [Rho.sub])⟩
 ·simp only [AV.ids] at hi
  rw [cellAVs_ids _ _ i hi]; exact hid
theorem step_loads_root {d t id sz : Nat} {T : TypeId} {cs : List D} {ty pos aft g} [StructTy P T sz] (h : st t = .own id (.pt true cs)) (hc : sz = cs.length) (hz : 0 < sz) (hd : n d = true) :
  Step P n ⟨some d, .load T (.tmp t), ty, pos, aft, g⟩ nid st [t] [(d, .agg (cellAVs t id [] 0 cs))] := by
 have := step_loads_p (P := P) (n := n) (nid := nid) (T := T) (d := d) (ty := ty) (pos := pos) (aft := aft) (g := g) (.root h) rfl rfl (by omega) hz hd
 rwa [List.drop_zero, hc, List.take_length] at this
inductive GiveE (st : Nat → AV) : AV → List Nat → D → List (Nat × AV) → Prop
 | c {d} : GiveE st (.c d) [] d []
 | part {x id k path dd sz cs} : st x = .own id dd → dd.nav (k :: path) = some (.sl true sz cs) → GiveE st (.als x id (k :: path)) [x] (.sl true sz cs) [(x, .own id (dd.put (k :: path) .hole))]
inductive GivesE : (Nat → AV) → List AV → List Nat → List D → List (Nat × AV) → Prop
 | nil {s0} : GivesE s0 [] [] [] []
 | cons {s0 x xs rd rds d ds up ups} : GiveE s0 x rd d up → GivesE (puts s0 up) xs rds ds ups → GivesE s0 (x :: xs) (rd ++ rds) (d :: ds) (up ++ ups)
inductive GiveV (st : Nat → AV) : Operand → List Nat → List D → List (Nat × AV) → Prop
 | one {x rd d up} : Give st x rd d up → GiveV st x rd [d] up
 | agg {t l ds} : st t = .agg l → AV.dats l = some ds → GiveV st (.tmp t) [t] ds [(t, .dead)]
 | parts {t l rd ds up} : st t = .agg l → GivesE st l rd ds up → GiveV st (.tmp t) (t :: rd) ds up
theorem GiveE.agree {st' : Nat → AV} {x : AV} {rd : List Nat} {d : D} {up : List (Nat × AV)} (h : GiveE st x rd d up) (hs : ∀ s ∈ rd, st' s = st s) : GiveE st' x rd d up := by
 cases h with
 | c => exact .c
 | part h1 h2 => exact .part ((hs _ (by simp)).trans h1) h2
theorem GivesE.agree : ∀ {st st' : Nat → AV} {xs : List AV} {rd : List Nat} {ds : List D} {up : List (Nat × AV)}, GivesE st xs rd ds up → (∀ s ∈ rd, st' s = st s) → GivesE st' xs rd ds up
 | _, _, _, _, _, _, .nil, _ => .nil
 | _, _, _, _, _, _, .cons h1 h2, hs => .cons (h1.agree fun s hs' => hs s (by simp [hs'])) (GivesE.agree h2 fun s hs' => puts_agree _ _ (hs s (by simp [hs'])))
theorem GiveV.agree {st' : Nat → AV} {x : Operand} {rd : List Nat} {ds : List D} {up : List (Nat × AV)} (h : GiveV st x rd ds up) (hs : ∀ s ∈ rd, st' s = st s) : GiveV st' x rd ds up := by
 cases h with
 | one h => exact .one (h.agree hs)
 | agg h1 h2 => exact .agg ((hs _ (by simp)).trans h1) h2
 | parts h1 h2 => exact .parts ((hs _ (by simp)).trans h1) (h2.agree fun s h => hs s (List.mem_cons_of_mem _ h))
theorem RepM.giveE (h : RepM f X st a w ρ L M) {x : AV} {rd : List Nat} {d : D} {up : List (Nat × AV)} (hg : GiveE st x rd d up) {v : Value} (hv : SR f.F w ρ x v []) :
  ∃ r L' M1, RepM f X (puts st up) a w ρ L' (M ++ M1) ∧ RD f.F w d r v M1 := by
 cases hg with
 | c =>
  simp only [SR] at hv
  obtain ⟨_, r, hr⟩ := hv
  exact ⟨r, L, [], by simpa [puts] using h, hr⟩
 | @part x id k path dd sz cs hx hn =>
  have hi := h.rep.ids x
  rw [hx] at hi
  simp only [SR] at hv
  obtain ⟨v1, A, L1, B, eL, h3, hset⟩ := h.rep.part hx hn
  have hv1 : v1 = ρ id (k :: path) := by
   have := h3
   simp only [RD] at this
   rw [this.1, Rho.sub_nil]
  have e : v = v1 := by rw [hv1]; exact hv.2
  have hfin := hset w .hole ((ρ id).sub (k :: path)) [] (fun _ _ => rfl) (fun _ _ => rfl) (by simp only [RD]; exact ⟨by rw [Rho.sub_nil]; exact hv1, h3.one, trivial⟩)
  rw [Rho.set_sub] at hfin
  have hnd := h.rep.nodup x
  rw [eL] at hnd
  simp only [List.nodup_append, List.mem_append] at hnd
  rw [e]
  refine ⟨_, _, L1, h.detach x (.own id (dd.put (k :: path) .hole)) (A ++ ([] ++ B)) L1 (by simp only [SR]; exact hfin) (by simpa [AV.ids] using hi) (fun g hg => ?_) ?_ hnd.2.1.1 (fun g hg hg' => ?_), h3⟩
  ·rw [eL]; simp only [List.nil_append, List.mem_append] at hg ⊢; grind
  ·simp only [List.nil_append, List.nodup_append]; grind
  ·simp only [List.nil_append, List.mem_append] at hg; grind
theorem RepM.givesE : ∀ {xs : List AV} {st : Nat → AV} {L : Nat → List Nat} {M : List Nat}, RepM f X st a w ρ L M → ∀ {rd : List Nat} {ds : List D} {up : List (Nat × AV)}, GivesE st xs rd ds up → ∀ (k : Nat) {vs : List Value} {L0 : List Nat}, SRs f.F w ρ xs vs L0 →
  ∃ r L' M1, RepM f X (puts st up) a w ρ L' (M ++ M1) ∧ RDs f.F w ds k r vs M1
 | [], st, L, M, h, _, _, _, .nil, k, vs, L0, hv => by
  simp only [SRs] at hv
  obtain ⟨rfl, _⟩ := hv
  exact ⟨fun _ => undef, L, [], by simpa [puts] using h, by simp [RDs]⟩
 | x :: xs, st, L, M, h, _, _, _, .cons (d := d) (ds := ds) h1 h2, k, vs, L0, hv => by
  simp only [SRs] at hv
  obtain ⟨v, vs', La, Lb, rfl, _, hv1, hv2⟩ := hv
  have hLa : La = [] := by
   cases h1 with
   | c => simp only [SR] at hv1; exact hv1.1
   | part _ _ => simp only [SR] at hv1; exact hv1.1
  subst hLa
  obtain ⟨r1, L1, M1, hm1, hr1⟩ := h.giveE h1 hv1
  obtain ⟨r2, L2, M2, hm2, hr2⟩ := RepM.givesE hm1 h2 (k + 1) hv2
  refine ⟨(fun π => match π with | [] => undef | j :: q => if j = k then r1 q else r2 (j :: q)), L2, M1 ++ M2, ?_, ?_⟩
  ·rw [puts_append, ← List.append_assoc]; exact hm2
  ·simp only [RDs]
   refine ⟨_, _, M1, M2, rfl, rfl, ?_, ?_⟩
   ·refine RD.rho d r1 _ _ M1 hr1 (fun π => by simp [Rho.at])
   ·refine RDs.rho ds (k + 1) r2 _ _ M2 hr2 (fun j hj => ?_)
    funext π
    simp [Rho.at, show j ≠ k from by omega]
theorem RepO.giveV (h : RepO f X st a w ρ L) {x : Operand} {rd : List Nat} {ds : List D} {up : List (Nat × AV)} (hg : GiveV st x rd ds up) :
  ∃ r L' M1 us, RepM f X (puts st up) a w ρ L' M1 ∧ (a.eval x).cells.toList = us ∧ RDs f.F w ds 0 r us M1 := by
 cases hg with
 | one hg =>
  obtain ⟨r, L', M1, hm, hr⟩ := h.toM.give hg
  rw [List.nil_append] at hm
  refine ⟨fun π => match π with | [] => undef | j :: q => r q, L', M1, [a.eval x], hm, by rw [oneCell_cells hr.one], ?_⟩
  simp only [RDs]
  exact ⟨_, _, M1, [], rfl, by simp, RD.rho _ r _ _ _ hr (fun π => by simp [Rho.at]), rfl, rfl⟩
 | @agg t l ds ht hl =>
  have h1 := h.slots t
  rw [ht] at h1
  simp only [SR] at h1
  obtain ⟨vs, e0, h1⟩ := h1
  obtain ⟨r, h2⟩ := h1.dats l _ 0 vs (L t) hl
  have hm := h.toM.detach t .dead [] (L t) (by simp only [SR]) (by simp [AV.ids]) (fun g hg => by simpa using hg) List.nodup_nil (h.nodup t) (by simp)
  rw [List.nil_append] at hm
  exact ⟨r, _, L t, vs, hm, by rw [show a.eval (.tmp t) = _ from e0]; simp [Value.cells], h2⟩
 | @parts t l rd ds up ht hl =>
  have h1 := h.slots t
  rw [ht] at h1
  simp only [SR] at h1
  obtain ⟨vs, e0, h1⟩ := h1
  obtain ⟨r, L', M1, hm, h2⟩ := h.toM.givesE hl 0 h1
  rw [List.nil_append] at hm
  exact ⟨r, L', M1, vs, hm, by rw [show a.eval (.tmp t) = _ from e0]; simp [Value.cells], h2⟩
def D.over : List D → Nat → List D → List D
 | cs, _, [] => cs
 | cs, j, d :: ds => D.over (cs.set j d) (j + 1) ds
theorem kids_with {d : D} {cs cs' : List D} (h : d.kids = some cs) : (d.withKids cs').kids = some cs' := by
 cases d with
 | lit v => simp [D.kids] at h
 | hole => simp [D.kids] at h
 | fn g c => simp [D.kids] at h
 | sl own sz c => cases own <;> simp [D.kids, D.withKids] at h ⊢
 | pt own c => cases own <;> simp [D.kids, D.withKids] at h ⊢
theorem with_with {d : D} {cs cs' cs'' : List D} (h : d.kids = some cs) : (d.withKids cs').withKids cs'' = d.withKids cs'' := by
 cases d with
 | lit v => simp [D.kids] at h
 | hole => simp [D.kids] at h
 | fn g c => simp [D.kids] at h
 | sl own sz c => cases own <;> simp [D.kids, D.withKids] at h ⊢
 | pt own c => cases own <;> simp [D.kids, D.withKids] at h ⊢
theorem with_kids {d : D} {cs : List D} (h : d.kids = some cs) : d.withKids cs = d := by
 cases d with
 | lit v => simp [D.kids] at h
 | hole => simp [D.kids] at h
 | fn g c => simp [D.kids] at h
 | sl own sz c => cases own <;> simp [D.kids, D.withKids] at h ⊢; exact h.symm
 | pt own c => cases own <;> simp [D.kids, D.withKids] at h ⊢; exact h.symm
theorem RD.stores {F : Nat → Prop} {g o : Nat} : ∀ {ds : List D} {w : World} {k : Nat} {r : Rho} {us : List Value} {M : List Nat}, RDs F w ds k r us M → M.Nodup → (∀ g ∈ M, ¬ F g) →
  ∀ {j : Nat} {d1 : D} {cs : List D} {ρ : Rho} {v : Value} {L1 : List Nat}, RD F w d1 ρ v L1 → d1.kids = some cs → j + ds.length ≤ cs.length → L1.Nodup → (∀ g ∈ L1, ¬ F g) → (∀ x ∈ L1, x ∉ M) → baseOf v = some ⟨g, o, none⟩ → g ∈ L1 →
  ∃ ρ' L', (∀ i, i < ds.length → (∃ u, w.cell? ⟨g, o + j + i, none⟩ = some u) ∧ w.frozen? ⟨g, o + j + i, none⟩ = false) ∧ RD F (w.setCells g (o + j) us) (d1.withKids (D.over cs j ds)) ρ' v L' ∧ L'.Nodup ∧ (∀ x ∈ L', x ∈ L1 ∨ x ∈ M) ∧ g ∈ L' ∧
   (∀ g', g' ≠ g → (w.setCells g (o + j) us).heap[g']? = w.heap[g']?) ∧ (w.setCells g (o + j) us).heap.size = w.heap.size ∧ Keep w [g] (w.setCells g (o + j) us)
 | [], w, k, r, us, M, h, _, _, j, d1, cs, ρ, v, L1, h1, hk, hj, hn, hF, hd, hb, hg => by
  simp only [RDs] at h
  obtain ⟨rfl, rfl⟩ := h
  refine ⟨ρ, L1, fun i hi => by simp at hi, ?_, hn, fun x hx => .inl hx, hg, fun _ _ => rfl, rfl, ⟨rfl, rfl, rfl, Nat.le_refl _, fun _ _ _ => rfl, Nat.le_refl _⟩⟩
  simp only [D.over, World.setCells]
  rw [with_kids hk]; exact h1
 | d :: ds, w, k, r, us, M, h, hMn, hMF, j, d1, cs, ρ, v, L1, h1, hk, hj, hn, hF, hd, hb, hg => by
  simp only [RDs] at h
  obtain ⟨u, us', Ma, Mb, rfl, rfl, k1, k2⟩ := h
  have hjlt : j < cs.length := by simp at hj; omega
  obtain ⟨g', o', A, M0, B, hb', rfl, hcell, hfr, hput⟩ := h1.store hk (List.getElem?_eq_getElem hjlt) hn hF
  rw [hb] at hb'
  simp only [Option.some.injEq, Addr.mk.injEq, and_true] at hb'
  obtain ⟨rfl, rfl⟩ := hb'
  have hsame : ∀ g', g' ≠ g → Same w (w.setCell ⟨g, o + j, none⟩ u) g' := fun g' hg' => setCell_heap_other w g (o + j) g' u hg'
  have hFg : ¬ F g := hF g (by simp)
  have hMg : ∀ x ∈ Ma ++ Mb, x ≠ g := fun x hx e => hd g (by simp) (e ▸ hx)
  have k1' := RD.same (fun _ h => h) (fun x hx => hsame x (by rintro rfl; exact hFg hx)) d _ u Ma k1 (fun x hx => hsame x (hMg x (by simp [hx])))
  have k2' := RDs.same (fun _ h => h) (fun x hx => hsame x (by rintro rfl; exact hFg hx)) ds _ _ us' Mb k2 (fun x hx => hsame x (hMg x (by simp [hx])))
  have e1 := hput d _ u Ma k1'
  simp only [List.nodup_append, List.nodup_cons, List.mem_append, not_or] at hn hMn
  have hd' : ∀ x, (x = g ∨ x ∈ A ∨ x ∈ M0 ∨ x ∈ B) → x ∉ Ma ∧ x ∉ Mb := fun x hx => by
   have := hd x (by simp only [List.mem_cons, List.mem_append]; exact hx)
   simpa only [List.mem_append, not_or] using this
  obtain ⟨ρ', L', c1, c2, c3, c4, c5, c6, c7, c8⟩ := RD.stores (g := g) (o := o) k2' hMn.2.1 (fun x hx => hMF x (by simp [hx])) (j := j + 1) e1 (kids_with hk) (by simp at hj ⊢; omega) (by
    simp only [List.nodup_cons, List.nodup_append, List.mem_append, not_or]
    grind) (fun x hx => by
    simp only [List.mem_cons, List.mem_append] at hx
    rcases hx with rfl | hx | hx | hx
    ·exact hFg
    ·exact hF x (by simp [hx])
    ·exact hMF x (by simp [hx])
    ·exact hF x (by simp [hx])) (fun x hx => by
    simp only [List.mem_cons, List.mem_append] at hx
    rcases hx with rfl | hx | hx | hx
    ·exact (hd' x (.inl rfl)).2
    ·exact (hd' x (.inr (.inl hx))).2
    ·exact fun hb => hMn.2.2 x hx x hb rfl
    ·exact (hd' x (.inr (.inr (.inr hx)))).2) hb (by simp)
  rw [with_with hk] at c2
  refine ⟨ρ', L', fun i hi => ?_, c2, c3, fun x hx => ?_, c5, fun g' hg' => ?_, ?_, ?_⟩
  ·cases i with
   | zero => exact ⟨hcell, hfr⟩
   | succ i =>
    obtain ⟨⟨u1, hu1⟩, hf1⟩ := c1 i (by simpa using hi)
    have hjn : j + 1 + i < cs.length := by simp at hj hi; omega
    obtain ⟨g2, o2, _, _, _, hb2, _, hc2, hf2, _⟩ := h1.store (j := j + 1 + i) hk (List.getElem?_eq_getElem hjn) (by simpa only [List.nodup_append, List.nodup_cons, List.mem_append, List.mem_cons, not_or] using hn) hF
    rw [hb] at hb2
    simp only [Option.some.injEq, Addr.mk.injEq, and_true] at hb2
    obtain ⟨rfl, rfl⟩ := hb2
    rw [show o + j + (i + 1) = o + (j + 1 + i) by omega]
    exact ⟨hc2, hf2⟩
  ·have := c4 x hx
   simp only [List.mem_cons, List.mem_append] at this ⊢
   grind
  ·simp only [World.setCells]
   rw [show o + j + 1 = o + (j + 1) from rfl, c6 g' hg', setCell_heap_other w g (o + j) g' u hg']
  ·simp only [World.setCells]
   rw [show o + j + 1 = o + (j + 1) from rfl, c7]; simp [World.setCell]
  ·simp only [World.setCells]
   exact (Keep.setCell w g (o + j) u).trans c8 (fun x hx _ => hx)
class SizeTy (P : Program) (T : TypeId) (m : outParam Nat) : Prop where
 out : ∃ i, P.info? T = some i ∧ i.size = m
instance {T : TypeId} [h : OneTy P T] : SizeTy P T 1 := let ⟨_, i, _, _, h3, h4⟩ := h.out; ⟨i, h3, h4⟩
instance {T : TypeId} {sz : Nat} [h : StructTy P T sz] : SizeTy P T sz := let ⟨_, i, _, h3, h4⟩ := h.out; ⟨i, h3, h4⟩
theorem run_store_cells {T : TypeId} {m : Nat} [hT : SizeTy P T m] (w : World) (g j : Nat) (v : Value) (hl : v.cells.toList.length = m) (hc : ∀ i, i < m → (∃ u, w.cell? ⟨g, j + i, none⟩ = some u) ∧ w.frozen? ⟨g, j + i, none⟩ = false) (h1 : ∀ u ∈ v.cells.toList, u.oneCell' = true) :
  (Instr.storeAt T (.pointer (some ⟨g, j, none⟩)) v).run P w = .ok () (w.setCells g j v.cells.toList) := by
 obtain ⟨i, t1, t2⟩ := hT.out
 have := run_storeCells_cells (P := P) g j v.cells.toList 0 w (fun k hk => by rw [Nat.add_zero]; obtain ⟨⟨u, hu⟩, _⟩ := hc k (by omega); simp [hu]) (fun k hk => by rw [Nat.add_zero]; exact (hc k (by omega)).2) h1
 have hsz : v.cells.size = i.size := by rw [← Array.length_toList]; omega
 simp [Instr.storeAt, Instr.sureAddr, storeVar, sizeOf, typeInfo, t1, hsz, this]
theorem step_stores {t x id off : Nat} {path rd rd0 : List Nat} {xv : Operand} {T : TypeId} {dd d1 : D} {cs ds : List D} {up : List (Nat × AV)} {ty pos aft g} (hg : GiveV st xv rd ds up) (hp : Pts (puts st up) t rd0 x id dd path off) (hn' : dd.nav path = some d1) (hk : d1.kids = some cs)
  {m : Nat} [hT : SizeTy P T m] (hm0 : ds.length = m) (hlen : off + ds.length ≤ cs.length) (hz : ds ≠ []) :
  Step P n ⟨none, .store T (.tmp t) xv, ty, pos, aft, g⟩ nid st (rd ++ rd0) (up ++ [(x, .own nid (dd.put path (d1.withKids (D.over cs off ds))))]) := by
 intro X st' hs hX f a w hn hrep K Q hK
 obtain ⟨ρ, L, hr⟩ := hrep
 subst hn
 obtain ⟨r, L', M1, us, hm, hus, hv⟩ := hr.giveV (hg.agree fun s h => hs s (by simp [h]))
 have hp' := hp.agree (st' := puts st' up) fun s h => puts_agree _ _ (hs s (by simp [h]))
 rw [puts_append] at hK
 have h0 := hm.rep
 obtain ⟨hid, b, hb, e0⟩ := hp'.addr h0
 have hcs : cs ≠ [] := by rintro rfl; exact hz (List.eq_nil_of_length_eq_zero (by have := hlen; simp only [List.length_nil] at this; omega))
 obtain ⟨g0, o0, _, _, hb', hg0, _⟩ := h0.partKids hp'.own hn' hk hcs
 rw [hb] at hb'
 simp only [Option.some.injEq] at hb'
 subst hb'
 rw [addr_off] at e0
 obtain ⟨v1, A, L1, B, eL, h1, hset⟩ := h0.part hp'.own hn'
 have hv1 : v1 = ρ id path := by
  cases d1 with
  | lit v => simp [D.kids] at hk
  | hole => simp [D.kids] at hk
  | fn g cs => simp [D.kids] at hk
  | sl own sz cs' => cases own <;> simp [D.kids] at hk; simp only [RD] at h1; rw [h1.1, Rho.sub_nil]
  | pt own cs' => cases own <;> simp [D.kids] at hk; simp only [RD] at h1; rw [h1.1, Rho.sub_nil]
 have hsub : ∀ g' ∈ L1, g' ∈ L' x := fun g' hg => by rw [eL]; simp [hg]
 have hndx := h0.nodup x
 rw [eL] at hndx
 have hnd1 : L1.Nodup := (List.nodup_append.1 ((List.nodup_append.1 hndx).2.1)).1
 have hg1 : g0 ∈ L1 := by
  obtain ⟨g2, o2, _, _, _, hb2, e2, _⟩ := h1.store (j := 0) hk (List.getElem?_eq_getElem (by
   cases cs with
   | nil => exact absurd rfl hcs
   | cons => simp)) hnd1 (fun g' hg' => (h0.bound x g' (hsub g' hg')).2)
  rw [hv1, hb] at hb2
  simp only [Option.some.injEq, Addr.mk.injEq, and_true] at hb2
  obtain ⟨rfl, rfl⟩ := hb2
  rw [e2]; simp
 obtain ⟨ρ', L2, c1, c2, c3, c4, c5, c6, c7, c8⟩ := RD.stores (g := g0) (o := o0) hv hm.nd (fun g' hg' => (hm.bound g' hg').2) (j := off) h1 hk hlen hnd1 (fun g' hg' => (h0.bound x g' (hsub g' hg')).2) (fun g' hg' => hm.disj x g' (hsub g' hg')) (by rw [hv1]; exact hb) hg1
 have hAB : ∀ g', g' ∈ A ∨ g' ∈ B → g' ≠ g0 := by
  rintro g' hg' rfl
  simp only [List.nodup_append, List.mem_append] at hndx
  rcases hg' with hg' | hg'
  ·exact hndx.2.2 g' hg' g' (.inl hg1) rfl
  ·exact hndx.2.1.2.2 g' hg1 g' hg' rfl
 have hfin := hset (w.setCells g0 (o0 + off) us) _ _ _ (fun g' hg' => c6 g' (by rintro rfl; exact (h0.bound x g' hg0).2 hg')) (fun g' hg' => c6 g' (hAB g' hg')) c2
 have hml : us.length = ds.length := hv.length
 refine wp_of_skip (w' := w.setCells g0 (o0 + off) us) ?_ ?_
 ·have hrun := run_store_cells (P := P) (T := T) (m := m) w g0 (o0 + off) (a.eval xv) (by rw [hus, hml, hm0]) (by rw [← hm0]; exact c1) (by rw [hus]; exact ones_of hv)
  rw [hus] at hrun
  simp only [execOp, e0, Sem.run_bind, hrun, Result.andThen_ok, Sem.run_pure]
 ·refine hK _ _ ⟨fun i => if i = nid then (ρ id).set path ρ' else ρ i, fun s => if s = x then A ++ (L2 ++ B) else L' s, ?_⟩
  refine hm.step (fun s => s = x) [g0] _ _ _ (w.setCells g0 (o0 + off) us) _ _ rfl rfl (fun _ _ => rfl) c8 (fun g' hg' => .inl ⟨x, rfl, by simp only [List.mem_singleton] at hg'; rw [hg']; exact hg0⟩) (fun i hi => by rw [if_neg (by rintro rfl; exact hX hi)]) (fun s hs' => ⟨put_other _ _ _ _ hs', rfl, by simp [hs']⟩) (fun s hs' => ?_) (fun s u hs' hu hne => absurd (hs'.trans hu.symm) hne) (fun _ h => .inl h) (fun s hs' i hi => ?_)
  ·subst hs'
   simp only [puts, put_same, if_true, SR]
   refine ⟨hfin, ?_, fun g' hg' => ?_⟩
   ·have hd2 : ∀ g' ∈ L2, g' ∉ A ∧ g' ∉ B := fun g' hg' => by
     rcases c4 g' hg' with h | h
     ·simp only [List.nodup_append, List.mem_append] at hndx
      exact ⟨fun ha => hndx.2.2 g' ha g' (.inl h) rfl, fun hb => hndx.2.1.2.2 g' h g' hb rfl⟩
     ·have := fun hx => hm.disj s g' hx h
      rw [eL] at this
      simp only [List.mem_append] at this
      exact ⟨fun ha => this (.inl ha), fun hb => this (.inr (.inr hb))⟩
    simp only [List.nodup_append, List.mem_append] at hndx ⊢
    grind
   ·simp only [List.mem_append] at hg'
    have hlt : ∀ g', (g' ∈ L' s ∨ g' ∈ M1) → g' < (w.setCells g0 (o0 + off) us).heap.size ∧ ((∃ u, u = s ∧ g' ∈ L' u) ∨ g' ∈ M1 ∨ w.heap.size ≤ g') := by
     intro g' h
     rw [c7]
     rcases h with h | h
     ·exact ⟨(h0.bound s g' h).1, .inl ⟨s, rfl, h⟩⟩
     ·exact ⟨(hm.bound g' h).1, .inr (.inl h)⟩
    refine hlt g' ?_
    rcases hg' with h | h | h
    ·left; rw [eL]; simp [h]
    ·rcases c4 g' h with h | h
     ·exact .inl (hsub g' h)
     ·exact .inr h
    ·left; rw [eL]; simp [h]
  ·subst hs'
   simp only [puts, put_same, AV.ids, List.mem_singleton] at hi
   exact .inr hi
theorem step_store_give_ptr {t x id off : Nat} {path rd : List Nat} {xv : Operand} {T : TypeId} {dd d1 : D} {cs ds : List D} {up : List (Nat × AV)} {ty pos aft g} (hg : GiveV st xv rd ds up) (h : puts st up t = .ptr x id path off) (hx : puts st up x = .own id dd) (hn' : dd.nav path = some d1) (hk : d1.kids = some cs)
  {m : Nat} [hT : SizeTy P T m] (hm0 : ds.length = m) (hlen : off + ds.length ≤ cs.length) (hz : ds ≠ []) :
  Step P n ⟨none, .store T (.tmp t) xv, ty, pos, aft, g⟩ nid st (rd ++ [t, x]) (up ++ [(x, .own nid (dd.put path (d1.withKids (D.over cs off ds))))]) := step_stores hg (.ptr h hx) hn' hk hm0 hlen hz
theorem step_store_give_root {t id : Nat} {rd : List Nat} {xv : Operand} {T : TypeId} {cs ds : List D} {up : List (Nat × AV)} {ty pos aft g} (hg : GiveV st xv rd ds up) (h : puts st up t = .own id (.pt true cs))
  {m : Nat} [hT : SizeTy P T m] (hm0 : ds.length = m) (hlen : ds.length ≤ cs.length) (hz : ds ≠ []) :
  Step P n ⟨none, .store T (.tmp t) xv, ty, pos, aft, g⟩ nid st (rd ++ [t]) (up ++ [(t, .own nid (.pt true (D.over cs 0 ds)))]) := step_stores hg (.root h) rfl rfl hm0 (by omega) hz
class MakeTy (P : Program) (T : TypeId) (d0 : outParam D) : Prop where
 out : ∃ e i z, P.underlying T = some (.slice e) ∧ P.info? e = some i ∧ i.size = 1 ∧ i.bytes ≤ 128 ∧ i.zero = some z ∧ z.cells = #[z] ∧ ZeroD z d0
theorem ZeroD.rds_rep {F : Nat → Prop} {w : World} {z : Value} {d0 : D} (h : ZeroD z d0) : ∀ (m k : Nat), RDs F w (List.replicate m d0) k (fun _ => z) (List.replicate m z) []
 | 0, k => by simp [RDs]
 | m + 1, k => by
  simp only [List.replicate_succ, RDs]
  exact ⟨z, List.replicate m z, [], [], rfl, rfl, RD.rho d0 _ _ z [] h.rd (fun π => rfl), h.rds_rep m (k + 1)⟩
theorem step_make {d m : Nat} {T : TypeId} {d0 : D} {x y : Operand} {k k' : IntKind} {i i' : Int} {ty pos aft g} [hT : MakeTy P T d0] (hx : Lit st x (.int k i)) (hy : Lit st y (.int k' i')) (hi : i = (m : Int)) (hi' : i' = (m : Int)) (hm : m ≤ 1099511627776) (hd : n d = true) :
  Step P n ⟨some d, .makeSlice T x y, ty, pos, aft, g⟩ nid st (rdOf x ++ rdOf y) [(d, .own nid (.sl true 1 (List.replicate m d0)))] := by
 intro X st' hs hX f a w hn hrep K Q hK
 obtain ⟨ρ, L, hr⟩ := hrep
 subst hn hi hi'
 obtain ⟨e, i, z, t1, t2, t3, t4, t5, t6, t7⟩ := hT.out
 have ex := Lit.eval hr (hx.agree fun s h => hs s (by simp [h]))
 have ey := Lit.eval hr (hy.agree fun s h => hs s (by simp [h]))
 have hrun := run_make_row (P := P) T e i z t1 t2 t5 t3 t6 k k' m (by have : i.bytes * m ≤ 128 * m := Nat.mul_le_mul_right _ t4; omega) (by omega) w
 have h2 := ZeroD.rds_rep (F := f.F) (w := w.alloc (.cells (madeCells #[z] m) e)) t7 m 0
 refine wV_ (u := .slice (some ⟨w.heap.size, 0, none⟩) m m) (w' := w.alloc (.cells (madeCells #[z] m) e)) ?_
  (hr.done_new hK hd hX _ _ (Keep.alloc w _) (fun π => match π with | [] => .slice (some ⟨w.heap.size, 0, none⟩) m m | _ :: _ => z) [w.heap.size] ?_ (by simp) (by simp))
 ·simp only [execOp, ex, ey, Sem.run_bind, hrun, Result.andThen_ok, Sem.run_pure]
 ·simp only [RD]
  refine ⟨trivial, List.replicate m z, [w.heap.size], [], by simp, .mk0 ⟨w.heap.size, m, m, madeCells #[z] m, e, rfl, alloc_new w _, by simp, Nat.le_refl _, by unfold maxLen; omega, by simp [size_madeCells], ?_, rfl⟩, ?_⟩
  ·rw [toList_madeCells_one]; simp
  ·exact RDs.rho _ 0 _ _ _ _ h2 (fun j _ => rfl)
end
end Go.Pv
namespace Go.Pv
open Go.RowKit
def hdrD : D → D
 | .sl true sz cs => .sl true sz (List.replicate cs.length .hole)
 | d => d
def hdr : AV → AV
 | .own id (.sl true sz cs) => .own id (.sl true sz (List.replicate cs.length .hole))
 | .own id (.pt true ds) => .own id (.pt true (ds.map hdrD))
 | x => x
def ext (st : Nat → AV) : Nat → AV := fun t => if t % 2 = 0 then st (t / 2) else hdr (st (t / 2))
def evens (e : Nat → AV) : Nat → AV := fun t => e (2 * t)
def RepE (f : Fr) (X : Nat → Prop) (e : Nat → AV) (a : Act) (w : World) : Prop := (∀ s, e (2 * s + 1) = hdr (e (2 * s))) ∧ RepX f X (evens e) a w
def rdE (rd : List Nat) : List Nat := rd.map fun s => 2 * s
def wkE (wk : List Nat) : List Nat := wk.map fun s => 2 * s + 1
def upE : List (Nat × AV) → List (Nat × AV)
 | [] => []
 | (d, v) :: up => (2 * d, v) :: (2 * d + 1, hdr v) :: upE up
def fpE : List Nat → List Nat
 | [] => []
 | d :: l => (2 * d) :: (2 * d + 1) :: fpE l
theorem fpE_up : ∀ (up : List (Nat × AV)), (upE up).map Prod.fst = fpE (up.map Prod.fst)
 | [] => rfl
 | (d, v) :: up => by simp only [upE, List.map_cons, fpE, fpE_up up]
theorem ext_even (st : Nat → AV) (s : Nat) : ext st (2 * s) = st s := by simp [ext]
theorem ext_odd (st : Nat → AV) (s : Nat) : ext st (2 * s + 1) = hdr (st s) := by
 have h1 : (2 * s + 1) % 2 = 1 := by omega
 have h2 : (2 * s + 1) / 2 = s := by omega
 simp [ext, h1, h2]
theorem evens_ext (st : Nat → AV) : evens (ext st) = st := funext fun s => ext_even st s
theorem ext_of {e : Nat → AV} (h : ∀ s, e (2 * s + 1) = hdr (e (2 * s))) : ext (evens e) = e := by
 funext t
 unfold ext evens
 split
 ·congr 1; omega
 ·rw [← h]; congr 1; omega
theorem RepE.of {f : Fr} {X : Nat → Prop} {st : Nat → AV} {a : Act} {w : World} (h : RepX f X st a w) : RepE f X (ext st) a w :=
 ⟨fun s => by rw [ext_even, ext_odd], by rw [evens_ext]; exact h⟩
theorem RepE.out {f : Fr} {X : Nat → Prop} {st : Nat → AV} {a : Act} {w : World} (h : RepE f X (ext st) a w) : RepX f X st a w := by
 have := h.2
 rwa [evens_ext] at this
theorem RepE.weaken {f : Fr} {X X' : Nat → Prop} {e : Nat → AV} {a : Act} {w : World} (h : RepE f X e a w) (hX : ∀ i, X i → X' i) : RepE f X' e a w := ⟨h.1, h.2.weaken hX⟩
theorem put_ext (st : Nat → AV) (d : Nat) (v : AV) : put (put (ext st) (2 * d) v) (2 * d + 1) (hdr v) = ext (put st d v) := by
 funext t
 rcases Nat.mod_two_eq_zero_or_one t with h | h
 ·obtain ⟨s, rfl⟩ : ∃ s, t = 2 * s := ⟨t / 2, by omega⟩
  rw [put_other _ _ _ _ (by omega), ext_even]
  by_cases hs : s = d
  ·subst hs; rw [put_same, put_same]
  ·rw [put_other _ _ _ _ (by omega), put_other _ _ _ _ hs, ext_even]
 ·obtain ⟨s, rfl⟩ : ∃ s, t = 2 * s + 1 := ⟨t / 2, by omega⟩
  rw [ext_odd]
  by_cases hs : s = d
  ·subst hs; rw [put_same, put_same]
  ·rw [put_other _ _ _ _ (by omega), put_other _ _ _ _ (by omega), put_other _ _ _ _ hs, ext_odd]
theorem puts_ext : ∀ (up : List (Nat × AV)) (st : Nat → AV), puts (ext st) (upE up) = ext (puts st up)
 | [], _ => rfl
 | (d, v) :: up, st => by
  simp only [upE, puts]
  rw [put_ext, puts_ext up]
theorem put_keep {st : Nat → AV} {d : Nat} {v : AV} (h : hdr v = hdr (st d)) : put (ext st) (2 * d) v = ext (put st d v) := by
 rw [← put_ext]
 funext t
 by_cases ht : t = 2 * d + 1
 ·subst ht
  rw [put_same, put_other _ _ _ _ (by omega), ext_odd, h]
 ·rw [put_other _ _ _ _ ht]
def Act1 (P : Program) (n : NN) (ops : Array Oper) (o : Oper) (nid : Nat) (st : Nat → AV) (rd : List Nat) (up : List (Nat × AV)) : Prop :=
 ∀ (X : Nat → Prop) (st' : Nat → AV), (∀ s ∈ rd, st' s = st s) → ¬ X nid → ∀ (f : Fr) (a : Act) (w : World), f.N = n → RepE f X st' a w → ∀ (K : Act → World → Prop) (Q : Exit → Act → World → Prop),
  (∀ a' w', RepE f (fun i => X i ∨ i = nid) (puts st' up) a' w' → K a' w') → if Region.wanted o (yielded ops a.tmps) then o.wp P a w K Q else K (a.put o.dst undef) w
def Hist (P : Program) (n : NN) (ops : Array Oper) : List Oper → Nat → List (List Nat × List (Nat × AV)) → (Nat → AV) → (Nat → AV) → Prop
 | [], _, its, st, st' => its = [] ∧ st' = st
 | o :: l, nx, its, st, st' => ∃ rd up its', its = (rd, up) :: its' ∧ Act1 P n ops o nx st rd up ∧ Hist P n ops l (nx + 1) its' (puts st up) st'
def sel : List (List Nat × List (Nat × AV)) → Nat → (Nat → Bool) → (Nat → AV) → Nat → AV
 | [], _, _, st => st
 | (_, up) :: r, i, S, st => sel r (i + 1) S (if S i then puts st up else st)
def anc1 (acc : List Nat) : List Edge → Nat
 | [] => 0
 | e :: es => if Region.binds .any e then (2 ^ e.on ||| acc.getD e.on 0) ||| anc1 acc es else anc1 acc es
def ancs : List Oper → List Nat → List Nat
 | [], acc => acc
 | o :: l, acc => ancs l (acc ++ [anc1 acc o.after.toList])
def disj (a b : List Nat) : Bool := a.all fun x => !b.contains x
def pairOk (m : List Nat) (fp : List (List Nat × List Nat)) (i j : Nat) : Bool :=
 (m.getD j 0).testBit i || (disj (fp.getD i ([], [])).2 (fp.getD j ([], [])).1 && disj (fp.getD j ([], [])).2 (fp.getD i ([], [])).1 && disj (fp.getD i ([], [])).2 (fp.getD j ([], [])).2)
def backOk : List Oper → Nat → Bool
 | [], _ => true
 | o :: l, i => (o.after.toList.all fun e => !Region.binds .any e || decide (e.on < i)) && backOk l (i + 1)
def pairsOk (l : List Oper) (fp : List (List Nat × List Nat)) : Bool :=
 backOk l 0 && (List.range l.length).all fun j => (List.range j).all fun i => pairOk (ancs l []) fp i j
def prints (its : List (List Nat × List (Nat × AV))) : List (List Nat × List Nat) := its.map fun x => (x.1, x.2.map Prod.fst)
theorem puts_off : ∀ (up : List (Nat × AV)) {st st' : Nat → AV} {s : Nat}, s ∉ up.map Prod.fst → st s = st' s → puts st up s = st' s
 | [], _, _, _, _, h => h
 | (d, v) :: up, st, st', s, h, e => by
  simp only [List.map_cons, List.mem_cons, not_or] at h
  exact puts_off up h.2 ((put_other st d s v h.1).trans e)
theorem puts_on : ∀ (up : List (Nat × AV)) {st st' : Nat → AV} {s : Nat}, st s = st' s ∨ s ∈ up.map Prod.fst → puts st up s = puts st' up s
 | [], _, _, _, h => h.resolve_right (by simp)
 | (d, v) :: up, st, st', s, h => by
  refine puts_on up ?_
  by_cases hs : s = d
  ·subst hs; left; simp [put]
  ·rcases h with h | h
   ·left; rw [put_other _ _ _ _ hs, put_other _ _ _ _ hs, h]
   ·right
    simp only [List.map_cons, List.mem_cons] at h
    exact h.resolve_left hs
theorem sel_agree : ∀ (its : List (List Nat × List (Nat × AV))) (i : Nat) {S S' : Nat → Bool} {st st' : Nat → AV} {s : Nat},
  (∀ j it, its[j]? = some it → S (i + j) ≠ S' (i + j) → s ∉ it.2.map Prod.fst) → st s = st' s → sel its i S st s = sel its i S' st' s
 | [], _, _, _, _, _, _, _, h => h
 | (rd, up) :: r, i, S, S', st, st', s, h, e => by
  simp only [sel]
  refine sel_agree r (i + 1) (fun j it hj hne => h (j + 1) it (by simpa using hj) (by rw [show i + (j + 1) = i + 1 + j by omega]; exact hne)) ?_
  by_cases hS : S i = S' i
  ·rw [hS]
   split
   ·exact puts_on up (.inl e)
   ·exact e
  ·have hn := h 0 (rd, up) rfl (by simpa using hS)
   split <;> split <;> first | exact puts_on up (.inl e) | exact puts_off up hn e | exact (puts_off up hn e.symm).symm | exact e
theorem sel_last : ∀ (its : List (List Nat × List (Nat × AV))) (i k : Nat) {S : Nat → Bool} {st st' : Nat → AV} {s : Nat} {it}, its[k]? = some it → S (i + k) = true → s ∈ it.2.map Prod.fst →
  (∀ j it, k < j → its[j]? = some it → S (i + j) = true → s ∉ it.2.map Prod.fst) → sel its i S st s = puts st' it.2 s
 | [], _, _, _, _, _, _, _, h, _, _, _ => by simp at h
 | (rd, up) :: r, i, 0, S, st, st', s, it, h, hS, hs, hl => by
  simp only [List.getElem?_cons_zero, Option.some.injEq] at h
  subst h
  simp only [sel, show S i = true by simpa using hS, if_true]
  rw [sel_agree r (i + 1) (S' := fun _ => false) (st' := puts st' up) (fun j it hj hne => hl (j + 1) it (by omega) (by simpa using hj) (by rw [show i + (j + 1) = i + 1 + j by omega]; simpa using hne)) (puts_on up (.inr hs))]
  have none : ∀ (its : List (List Nat × List (Nat × AV))) (i : Nat) (st : Nat → AV), sel its i (fun _ => false) st = st := by
   intro its
   induction its with
   | nil => intro i st; rfl
   | cons x r ih => intro i st; simp [sel, ih]
  rw [none]
 | (rd, up) :: r, i, k + 1, S, st, st', s, it, h, hS, hs, hl => by
  simp only [sel]
  exact sel_last r (i + 1) k (by simpa using h) (by rw [show i + 1 + k = i + (k + 1) by omega]; exact hS) hs (fun j it hj hk hSj => hl (j + 1) it (by omega) (by simpa using hk) (by rw [show i + (j + 1) = i + 1 + j by omega]; exact hSj))
section
variable {P : Program} {n : NN} {ops : Array Oper}
theorem Hist.len : ∀ {l : List Oper} {nx : Nat} {its} {st st' : Nat → AV}, Hist P n ops l nx its st st' → its.length = l.length
 | [], _, _, _, _, h => by simp only [Hist] at h; simp [h.1]
 | o :: l, _, _, _, _, h => by
  simp only [Hist] at h
  obtain ⟨rd, up, its', rfl, _, h2⟩ := h
  simp [Hist.len h2]
theorem Hist.at : ∀ {l : List Oper} {nx off : Nat} {its} {st st' : Nat → AV}, Hist P n ops l nx its st st' → ∀ {i : Nat} {o : Oper}, l[i]? = some o →
  ∃ it, its[i]? = some it ∧ Act1 P n ops o (nx + i) (sel its off (fun j => decide (j < off + i)) st) it.1 it.2
 | [], _, _, _, _, _, _, i, o, h => by simp at h
 | o :: l, nx, off, _, st, st', h, 0, o', hi => by
  simp only [Hist] at h
  obtain ⟨rd, up, its', rfl, h1, h2⟩ := h
  simp only [List.getElem?_cons_zero, Option.some.injEq] at hi
  subst hi
  refine ⟨(rd, up), rfl, ?_⟩
  have : sel ((rd, up) :: its') off (fun j => decide (j < off + 0)) st = st := by
   funext s
   have none : ∀ (its : List (List Nat × List (Nat × AV))) (i : Nat) (st : Nat → AV) (m : Nat), m ≤ i → sel its i (fun j => decide (j < m)) st = st := by
    intro its
    induction its with
    | nil => intro i st m _; rfl
    | cons x r ih => intro i st m hm; simp only [sel]; rw [ih _ _ _ (by omega), if_neg (by simpa using hm)]
   rw [none _ _ _ _ (by omega)]
  rw [this]
  exact h1
 | o :: l, nx, off, _, st, st', h, i + 1, o', hi => by
  simp only [Hist] at h
  obtain ⟨rd, up, its', rfl, h1, h2⟩ := h
  obtain ⟨it, k1, k2⟩ := Hist.at (off := off + 1) h2 (i := i) (o := o') (by simpa using hi)
  refine ⟨it, by simpa using k1, ?_⟩
  simp only [sel, show decide (off < off + (i + 1)) = true by simp, if_true]
  rw [show nx + (i + 1) = nx + 1 + i by omega, show (fun j => decide (j < off + (i + 1))) = (fun j => decide (j < off + 1 + i)) by funext j; congr 1; simp; omega]
  exact k2
theorem Hist.end : ∀ {l : List Oper} {nx off : Nat} {its} {st st' : Nat → AV}, Hist P n ops l nx its st st' → ∀ {S : Nat → Bool}, (∀ j, j < l.length → S (off + j) = true) → sel its off S st = st'
 | [], _, _, _, _, _, h, S, _ => by simp only [Hist] at h; obtain ⟨rfl, rfl⟩ := h; rfl
 | o :: l, nx, off, _, st, st', h, S, hS => by
  simp only [Hist] at h
  obtain ⟨rd, up, its', rfl, h1, h2⟩ := h
  simp only [sel, show S off = true by simpa using hS 0 (by simp), if_true]
  exact Hist.end (off := off + 1) h2 (fun j hj => by rw [show off + 1 + j = off + (j + 1) by omega]; exact hS (j + 1) (by simpa using hj))
theorem anc1_in {acc : List Nat} {S : Nat → Bool} (hacc : ∀ j, j < acc.length → S j = true → ∀ i, (acc.getD j 0).testBit i = true → S i = true) :
  ∀ {es : List Edge}, (∀ e ∈ es, Region.binds .any e = true → S e.on = true) → ∀ i, (anc1 acc es).testBit i = true → S i = true
 | [], _, i, h => by simp [anc1] at h
 | e :: es, he, i, h => by
  have ih := anc1_in hacc (es := es) fun e' h' => he e' (List.mem_cons_of_mem _ h')
  unfold anc1 at h
  split at h
  ·rename_i hb
   have hs := he e (by simp) hb
   rw [Nat.testBit_or, Nat.testBit_or, Bool.or_eq_true, Bool.or_eq_true] at h
   rcases h with (h | h) | h
   ·rw [Nat.testBit_two_pow] at h
    have : e.on = i := by simpa using h
    rw [← this]; exact hs
   ·by_cases hl : e.on < acc.length
    ·exact hacc _ hl hs i h
    ·rw [List.getD_eq_getElem?_getD, List.getElem?_eq_none (by omega)] at h; simp at h
   ·exact ih i h
  ·exact ih i h
theorem ancs_in : ∀ {l : List Oper} {acc : List Nat} {S : Nat → Bool}, (∀ j, j < acc.length → S j = true → ∀ i, (acc.getD j 0).testBit i = true → S i = true) →
  (∀ k o, l[k]? = some o → S (acc.length + k) = true → ∀ e ∈ o.after.toList, Region.binds .any e = true → S e.on = true) → ∀ j, S j = true → ∀ i, ((ancs l acc).getD j 0).testBit i = true → S i = true
 | [], acc, S, h, _, j, hj, i, hi => by
  simp only [ancs] at hi
  by_cases hl : j < acc.length
  ·exact h j hl hj i hi
  ·rw [List.getD_eq_getElem?_getD, List.getElem?_eq_none (by omega)] at hi; simp at hi
 | o :: l, acc, S, h, hc, j, hj, i, hi => by
  simp only [ancs] at hi
  refine ancs_in (l := l) (acc := acc ++ [anc1 acc o.after.toList]) (S := S) (fun j hl hS i hb => ?_) (fun k o' hk hS => hc (k + 1) o' (by simpa using hk) (by rw [List.length_append, List.length_singleton] at hS; rw [show acc.length + (k + 1) = acc.length + 1 + k by omega]; exact hS)) j hj i hi
  by_cases hlt : j < acc.length
  ·rw [List.getD_eq_getElem?_getD, List.getElem?_append_left hlt, ← List.getD_eq_getElem?_getD] at hb
   exact h j hlt hS i hb
  ·have e : j = acc.length := by simp at hl; omega
   subst e
   rw [List.getD_eq_getElem?_getD, List.getElem?_append_right (Nat.le_refl _)] at hb
   simp only [Nat.sub_self, List.getElem?_cons_zero, Option.getD_some] at hb
   exact anc1_in h (fun e he hbn => hc 0 o rfl (by simpa using hS) e he hbn) i hb
theorem backOk_at : ∀ {l : List Oper} {i : Nat}, backOk l i = true → ∀ {k o}, l[k]? = some o → ∀ e ∈ o.after.toList, Region.binds .any e = true → e.on < i + k
 | [], _, _, k, o, h => by simp at h
 | o :: l, i, h, 0, o', hk => by
  simp only [List.getElem?_cons_zero, Option.some.injEq] at hk
  subst hk
  simp only [backOk, Bool.and_eq_true, List.all_eq_true] at h
  intro e he hb
  simpa [hb] using h.1 e he
 | o :: l, i, h, k + 1, o', hk => by
  simp only [backOk, Bool.and_eq_true] at h
  intro e he hb
  have := backOk_at h.2 (k := k) (o := o') (by simpa using hk) e he hb
  omega
theorem ready_iff {listed : Array Bool} {i : Nat} : i ∈ Region.ready .any ops listed ↔ ∃ o, ops[i]? = some o ∧ listed.getD i true = false ∧ ∀ e ∈ o.after.toList, Region.binds .any e = true → listed.getD e.on false = true := by
 unfold Region.ready
 rw [List.mem_filter]
 simp only [List.mem_range, Bool.and_eq_true, Bool.not_eq_true']
 constructor
 ·rintro ⟨h1, h2, h3⟩
  have ho : ops[i]? = some ops[i] := Array.getElem?_eq_getElem h1
  refine ⟨_, ho, h2, fun e he hb => ?_⟩
  rw [ho] at h3
  simp only [Option.map_some, Option.getD_some, Array.all_eq_true_iff_forall_mem] at h3
  have := h3 e (by simpa using he)
  simpa [hb] using this
 ·rintro ⟨o, h1, h2, h3⟩
  refine ⟨(Array.getElem?_eq_some_iff.1 h1).1, h2, ?_⟩
  rw [h1]
  simp only [Option.map_some, Option.getD_some, Array.all_eq_true_iff_forall_mem]
  intro e he
  cases hb : Region.binds .any e with
  | false => rfl
  | true => simpa using h3 e (by simpa using he) hb
def countF (l : List Bool) : Nat := l.countP (!·)
theorem RepX.drew {f : Fr} {X : Nat → Prop} {st : Nat → AV} {a : Act} {w : World} (h : RepX f X st a w) : RepX f X st a { w with drawn := w.drawn + 1 } := by
 obtain ⟨f', k, ρ, L, h⟩ := h
 refine ⟨f', k, ρ, L, h.step (fun _ => False) [] X st a _ ρ L rfl rfl (fun _ _ => rfl) (Keep.drew w) (fun g hg => by simp at hg) (fun _ _ => rfl) (fun t _ => ⟨rfl, rfl, rfl⟩) (fun t ht => ht.elim) (fun t u ht => ht.elim) (fun _ h => h) (fun t ht => ht.elim)⟩
theorem wpAny_of {l : List Oper} {its} {st0 st1 : Nat → AV} {nx : Nat} (hh : Hist P n l.toArray l nx its st0 st1) (hp : pairsOk l (prints its) = true) {f : Fr} (hn : f.N = n) {Q : Exit → Act → World → Prop}
  (hQ : ∀ a w, RepE f (fun i => i < nx + l.length) st1 a w → Q .normal a w) : ∀ (fuel : Nat) (listed : Array Bool) (a : Act) (w : World), listed.size = l.length → countF listed.toList = fuel →
   (∀ i o, l[i]? = some o → listed.getD i false = true → ∀ e ∈ o.after.toList, Region.binds .any e = true → listed.getD e.on false = true) →
   RepE f (fun i => i < nx ∨ ∃ j, i = nx + j ∧ listed.getD j false = true) (sel its 0 (fun j => listed.getD j false) st0) a w → wpAny P .any l.toArray Q fuel listed a w := by
 have hlen := hh.len
 simp only [pairsOk, Bool.and_eq_true, List.all_eq_true, List.mem_range] at hp
 obtain ⟨hback, hpair⟩ := hp
 -- all listed: the end
 have fin : ∀ (listed : Array Bool) (a : Act) (w : World), listed.size = l.length → (∀ j, j < l.length → listed.getD j false = true) → RepE f (fun i => i < nx ∨ ∃ j, i = nx + j ∧ listed.getD j false = true) (sel its 0 (fun j => listed.getD j false) st0) a w → Q .normal a w := by
  intro listed a w hs hall hr
  rw [hh.end (off := 0) (S := fun j => listed.getD j false) (fun j hj => by simpa using hall j hj)] at hr
  refine hQ a w (hr.weaken fun i hi => ?_)
  rcases hi with hi | ⟨j, rfl, hj⟩
  ·omega
  ·have : j < listed.size := by
    by_cases h : j < listed.size
    ·exact h
    ·simp [Array.getD, h] at hj
   omega
 have unready : ∀ (listed : Array Bool), listed.size = l.length → Region.ready .any l.toArray listed = [] → ∀ j, j < l.length → listed.getD j false = true := by
  intro listed hs h0 j
  induction j using Nat.strongRecOn with
  | ind j ih =>
   intro hj
   by_cases hc : listed.getD j false = true
   ·exact hc
   ·exfalso
    have ho : l[j]? = some l[j] := List.getElem?_eq_getElem hj
    have : j ∈ Region.ready .any l.toArray listed := by
     refine ready_iff.2 ⟨l[j], by simp [hj], ?_, fun e he hb => ?_⟩
     ·have hjs : j < listed.size := by omega
      simp [Array.getD, hjs] at hc ⊢
      exact hc
     ·have := backOk_at hback ho e he hb
      exact ih e.on (by omega) (by omega)
    rw [h0] at this
    cases this
 intro fuel
 induction fuel with
 | zero =>
  intro listed a w hs hcnt hcl hr
  have hall : ∀ j, j < l.length → listed.getD j false = true := by
   intro j hj
   have hjs : j < listed.size := by omega
   have hm : listed[j] ∈ listed.toList := by simp
   have := List.countP_eq_zero.1 hcnt _ hm
   simpa [Array.getD, hjs] using this
  refine ⟨?_, fin listed a w hs hall hr⟩
  cases hrd : Region.ready .any l.toArray listed with
  | nil => rfl
  | cons i r =>
   have hi : i ∈ Region.ready .any l.toArray listed := by rw [hrd]; simp
   obtain ⟨o, ho, hl, _⟩ := ready_iff.1 hi
   have hil : i < l.length := by simpa using (Array.getElem?_eq_some_iff.1 ho).1
   have := hall i hil
   have hjs : i < listed.size := by omega
   simp [Array.getD, hjs] at this hl
   rw [this] at hl
   cases hl
 | succ fuel ih =>
  intro listed a w hs hcnt hcl hr
  refine ⟨fun h0 => fin listed a w hs (unready listed hs h0) hr, fun i hi => ?_⟩
  obtain ⟨o, ho, hl, hed⟩ := ready_iff.1 hi
  have ho' : l[i]? = some o := by simpa using ho
  have hil : i < l.length := (List.getElem?_eq_some_iff.1 ho').1
  have his : i < listed.size := by omega
  have hli : listed.getD i false = false := by simp [Array.getD, his] at hl ⊢; exact hl
  obtain ⟨it, hit, hact⟩ := hh.at (off := 0) ho'
  have hfp : ∀ {k : Nat} {x : List Nat × List (Nat × AV)}, its[k]? = some x → (prints its).getD k ([], []) = (x.1, x.2.map Prod.fst) := by
   intro k x hk
   simp [prints, List.getD, hk]
  -- the selection with i is closed
  let S : Nat → Bool := fun j => listed.getD j false
  let S' : Nat → Bool := fun j => S j || j == i
  have hS : ∀ k o', l[k]? = some o' → S k = true → ∀ e ∈ o'.after.toList, Region.binds .any e = true → S e.on = true := hcl
  have hS' : ∀ k o', l[k]? = some o' → S' k = true → ∀ e ∈ o'.after.toList, Region.binds .any e = true → S' e.on = true := by
   intro k o' hk hk' e he hb
   rcases Bool.or_eq_true _ _ ▸ hk' with h | h
   ·simp [S', hS k o' hk h e he hb]
   ·have : k = i := by simpa using h
    subst this
    rw [ho'] at hk
    cases hk
    have h3 := hed e he hb
    show (listed.getD e.on false || e.on == k) = true
    rw [h3]; rfl
  have hanc : ∀ j, S j = true → ∀ k, ((ancs l []).getD j 0).testBit k = true → S k = true := ancs_in (fun j h => by simp at h) (fun k o' hk h => hS k o' hk (by simpa using h))
  have hanc' : ∀ j, S' j = true → ∀ k, ((ancs l []).getD j 0).testBit k = true → S' k = true := ancs_in (fun j h => by simp at h) (fun k o' hk h => hS' k o' hk (by simpa using h))
  have apartJ : ∀ {j x}, i < j → S j = true → its[j]? = some x → disj (it.2.map Prod.fst) x.1 = true ∧ disj (x.2.map Prod.fst) it.1 = true ∧ disj (it.2.map Prod.fst) (x.2.map Prod.fst) = true := by
   intro j x hj hSj hx
   have hjl : j < l.length := by rw [← hlen]; exact (List.getElem?_eq_some_iff.1 hx).1
   have := hpair j hjl i hj
   simp only [pairOk, Bool.or_eq_true, Bool.and_eq_true, hfp hx, hfp hit] at this
   rcases this with h | ⟨⟨h1, h2⟩, h3⟩
   ·have := hanc j hSj i h
    simp only [S] at this
    rw [hli] at this
    cases this
   ·exact ⟨h1, h2, h3⟩
  have apartI : ∀ {j x}, j < i → S j = false → its[j]? = some x → disj (x.2.map Prod.fst) it.1 = true := by
   intro j x hj hSj hx
   have := hpair i hil j hj
   simp only [pairOk, Bool.or_eq_true, Bool.and_eq_true, hfp hx, hfp hit] at this
   rcases this with h | ⟨⟨h1, h2⟩, h3⟩
   ·have := hanc' i (by simp [S']) j h
    simp only [S', hSj, Bool.false_or, beq_iff_eq] at this
    omega
   ·exact h1
  have off : ∀ {a b : List Nat} {s : Nat}, disj a b = true → s ∈ b → s ∉ a := by
   intro a b s h hb ha
   simp only [disj, List.all_eq_true] at h
   have := h s ha
   simp [hb] at this
  have agree : ∀ s ∈ it.1, sel its 0 S st0 s = sel its 0 (fun j => decide (j < 0 + i)) st0 s := by
   intro s hs
   refine sel_agree its 0 (fun j x hx hne => ?_) rfl
   simp only [Nat.zero_add] at hne
   by_cases hji : j < i
   ·have : S j = false := by
     cases h : S j with
     | false => rfl
     | true => simp [h, hji] at hne
    exact off (apartI hji this hx) hs
   ·have hSj : S j = true := by
     cases h : S j with
     | true => rfl
     | false => simp [h, hji] at hne
    have hij : i < j := by
     rcases Nat.lt_or_ge i j with h | h
     ·exact h
     ·have : j = i := by omega
      subst this
      simp only [S] at hSj
      rw [hli] at hSj
      cases hSj
    exact off (apartJ hij hSj hx).2.1 hs
  have hget : ∀ j, (listed.setIfInBounds i true).getD j false = S' j := by
   intro j
   simp only [S', S]
   by_cases hji : j = i
   ·subst hji
    simp [Array.getD, his]
   ·have : (listed.setIfInBounds i true).getD j false = listed.getD j false := by
     rw [Array.getD_eq_getD_getElem?, Array.getD_eq_getD_getElem?, Array.getElem?_setIfInBounds_ne (by omega)]
    rw [this]
    simp [hji]
  have upd : puts (sel its 0 S st0) it.2 = sel its 0 S' st0 := by
   funext s
   by_cases hsu : s ∈ it.2.map Prod.fst
   ·refine (sel_last its 0 i (st' := sel its 0 S st0) hit (by simp [S']) hsu (fun j x hj hx hSj => ?_)).symm
    have hSj' : S j = true := by
     simp only [Nat.zero_add, S', Bool.or_eq_true, beq_iff_eq] at hSj
     rcases hSj with h | h
     ·exact h
     ·omega
    intro hmem
    exact off (apartJ hj hSj' hx).2.2 hmem hsu
   ·refine puts_off it.2 hsu (sel_agree its 0 (fun j x hx hne => ?_) rfl)
    have : j = i := by
     simp only [Nat.zero_add, S'] at hne
     by_cases h : j = i
     ·exact h
     ·simp [h] at hne
    subst this
    rw [hit] at hx
    cases hx
    exact hsu
  have key := hact (fun k => k < nx ∨ ∃ j, k = nx + j ∧ listed.getD j false = true) (sel its 0 S st0) agree (by
   rintro (h | ⟨j, h, hj⟩)
   ·omega
   ·have : j = i := by omega
    subst this
    rw [hli] at hj
    cases hj) f a w hn hr (wpAny P .any l.toArray Q fuel (listed.setIfInBounds i true)) Q (fun a' w' hr' => by
    rw [upd] at hr'
    refine ih _ a' w' (by simpa using hs) ?_ ?_ ?_
    ·have hset : ∀ (L : List Bool) (i : Nat), L[i]? = some false → countF (L.set i true) + 1 = countF L := by
      intro L
      induction L with
      | nil => intro i h; simp at h
      | cons b L ih =>
       intro i h
       cases i with
       | zero => simp at h; subst h; simp [countF]
       | succ i =>
        have := ih i (by simpa using h)
        simp only [countF, List.set_cons_succ, List.countP_cons] at this ⊢
        omega
     have := hset listed.toList i (by
      have : listed[i] = false := by simpa [Array.getD, his] using hli
      simp [his, this])
     rw [Array.toList_setIfInBounds]
     omega
    ·intro k o' hk hk' e he hb
     rw [hget] at hk' ⊢
     exact hS' k o' hk hk' e he hb
    ·have e1 : (fun j => (listed.setIfInBounds i true).getD j false) = S' := funext hget
     rw [e1]
     refine hr'.weaken fun k hk => ?_
     rcases hk with (hk | ⟨j, rfl, hj⟩) | rfl
     ·exact .inl hk
     ·exact .inr ⟨j, rfl, by rw [hget]; show (listed.getD j false || j == i) = true; rw [hj]; rfl⟩
     ·exact .inr ⟨i, rfl, by rw [hget]; simp [S']⟩)
  unfold wpOp
  rw [ho]
  simp only
  split
  ·rename_i hw
   rw [if_pos hw] at key
   exact .inl key
  ·rename_i hw
   rw [if_neg hw] at key
   exact key
end
section
variable {P : Program} {n : NN} {st : Nat → AV} {nx : Nat}
def RunD (P : Program) (n : NN) (ops l : List Oper) (st : Nat → AV) (nx : Nat) (pre : List (List Nat × List Nat)) (Q : (Nat → AV) → Nat → Prop) : Prop :=
 ∃ its st', Hist P n ops.toArray l nx its (ext st) (ext st') ∧ pairsOk ops (pre.reverse ++ prints its) = true ∧ Q st' (nx + l.length)
theorem RunD.nil {ops : List Oper} {pre} {Q : (Nat → AV) → Nat → Prop} (hp : pairsOk ops pre.reverse = true) (h : Q st nx) : RunD P n ops [] st nx pre Q :=
 ⟨[], st, ⟨rfl, rfl⟩, by simpa [prints] using hp, h⟩
theorem RunD.act {ops : List Oper} {pre} {Q : (Nat → AV) → Nat → Prop} {o : Oper} {l : List Oper} {rd : List Nat} {up : List (Nat × AV)} {st2 : Nat → AV} {fp : List Nat} (hs : Act1 P n ops.toArray o nx (ext st) rd up)
  (he : puts (ext st) up = ext st2) (hf : up.map Prod.fst = fp)
  (h : RunD P n ops l st2 (nx + 1) ((rd, fp) :: pre) Q) : RunD P n ops (o :: l) st nx pre Q := by
 obtain ⟨its, st', h1, h2, h3⟩ := h
 refine ⟨(rd, up) :: its, st', ⟨rd, up, its, rfl, hs, by rw [he]; exact h1⟩, ?_, ?_⟩
 ·subst hf; simpa [prints] using h2
 ·rw [List.length_cons, show nx + (l.length + 1) = nx + 1 + l.length by omega]
  exact h3
def StepW (P : Program) (n : NN) (o : Oper) (nid : Nat) (st : Nat → AV) (wk rd : List Nat) (up : List (Nat × AV)) : Prop :=
 ∀ (X : Nat → Prop) (st' : Nat → AV), (∀ s ∈ rd, st' s = st s) → (∀ s ∈ wk, hdr (st' s) = hdr (st s)) → ¬ X nid → Ok P n o nid X st' (puts st' up)
theorem rep_puts {f : Fr} {X : Nat → Prop} {e : Nat → AV} {up : List (Nat × AV)} {a : Act} {w : World} (he : ∀ s, e (2 * s + 1) = hdr (e (2 * s))) (h : RepX f X (puts (evens e) up) a w) : RepE f X (puts e (upE up)) a w := by
 rw [← ext_of he, puts_ext]
 exact .of h
theorem mem_rdE {s : Nat} {rd : List Nat} (h : s ∈ rd) : 2 * s ∈ rdE rd := List.mem_map.2 ⟨s, h, rfl⟩
theorem mem_wkE {s : Nat} {rd : List Nat} (h : s ∈ rd) : 2 * s + 1 ∈ wkE rd := List.mem_map.2 ⟨s, h, rfl⟩
theorem RunD.cons {ops : List Oper} {pre} {Q : (Nat → AV) → Nat → Prop} {d op ty pos aft} {l : List Oper} {rd : List Nat} {up : List (Nat × AV)} (hs : Step P n ⟨d, op, ty, pos, aft, none⟩ nx st rd up)
  (h : RunD P n ops l (puts st up) (nx + 1) ((rdE rd, fpE (up.map Prod.fst)) :: pre) Q) : RunD P n ops (⟨d, op, ty, pos, aft, none⟩ :: l) st nx pre Q :=
 RunD.act (up := upE up) (fun X e ha hX f a w hn hr K Q hK => by
  rw [if_pos (show Region.wanted ⟨d, op, ty, pos, aft, none⟩ (yielded ops.toArray a.tmps) = true from rfl)]
  exact hs.x X (evens e) (fun s h => (ha _ (mem_rdE h)).trans (ext_even st s)) hX f a w hn hr.2 K Q fun a' w' h => hK a' w' (rep_puts hr.1 h)) (puts_ext up st) (fpE_up up) h
theorem RunD.consW {ops : List Oper} {pre} {Q : (Nat → AV) → Nat → Prop} {d op ty pos aft} {l : List Oper} {wk rd : List Nat} {up : List (Nat × AV)} (hs : StepW P n ⟨d, op, ty, pos, aft, none⟩ nx st wk rd up)
  (h : RunD P n ops l (puts st up) (nx + 1) ((wkE wk ++ rdE rd, fpE (up.map Prod.fst)) :: pre) Q) : RunD P n ops (⟨d, op, ty, pos, aft, none⟩ :: l) st nx pre Q :=
 RunD.act (up := upE up) (fun X e ha hX f a w hn hr K Q hK => by
  rw [if_pos (show Region.wanted ⟨d, op, ty, pos, aft, none⟩ (yielded ops.toArray a.tmps) = true from rfl)]
  exact (hs X (evens e) (fun s h => (ha _ (List.mem_append_right _ (mem_rdE h))).trans (ext_even st s))
   (fun s h => by
    have := ha _ (List.mem_append_left _ (mem_wkE h))
    rw [hr.1 s, ext_odd] at this
    exact this) hX).x f a w hn hr.2 K Q fun a' w' h => hK a' w' (rep_puts hr.1 h)) (puts_ext up st) (fpE_up up) h
theorem RunD.consK {ops : List Oper} {pre} {Q : (Nat → AV) → Nat → Prop} {d op ty pos aft} {l : List Oper} {rd : List Nat} {x : Nat} {v : AV} {up : List (Nat × AV)} (hs : Step P n ⟨d, op, ty, pos, aft, none⟩ nx st rd ((x, v) :: up))
  (hx : rd.contains x = true) (hv : hdr v = hdr (st x))
  (h : RunD P n ops l (puts st ((x, v) :: up)) (nx + 1) ((rdE rd, (2 * x) :: fpE (up.map Prod.fst)) :: pre) Q) : RunD P n ops (⟨d, op, ty, pos, aft, none⟩ :: l) st nx pre Q :=
 RunD.act (up := (2 * x, v) :: upE up) (fun X e ha hX f a w hn hr K Q hK => by
  rw [if_pos (show Region.wanted ⟨d, op, ty, pos, aft, none⟩ (yielded ops.toArray a.tmps) = true from rfl)]
  have hxe : evens e x = st x := (ha _ (mem_rdE (by simpa using hx))).trans (ext_even st x)
  refine hs.x X (evens e) (fun s h => (ha _ (mem_rdE h)).trans (ext_even st s)) hX f a w hn hr.2 K Q fun a' w' h => hK a' w' ?_
  simp only [puts] at h ⊢
  rw [← ext_of hr.1, put_keep (by rw [hxe]; exact hv), puts_ext]
  exact .of h) (by simp only [puts]; rw [put_keep hv, puts_ext]) (by simp only [List.map_cons, fpE_up]) h
theorem RunD.doit {ops : List Oper} {pre} {Q : (Nat → AV) → Nat → Prop} {d op ty pos aft j b t} {l : List Oper} {rd : List Nat} {up : List (Nat × AV)} (hd : (ops[j]?).bind (·.dst) = some t) (ht : st t = .c (.lit (.bool b)))
  (hs : Step P n ⟨d, op, ty, pos, aft, some (j, b)⟩ nx st rd up) (h : RunD P n ops l (puts st up) (nx + 1) ((rdE (t :: rd), fpE (up.map Prod.fst)) :: pre) Q) : RunD P n ops (⟨d, op, ty, pos, aft, some (j, b)⟩ :: l) st nx pre Q :=
 RunD.act (up := upE up) (fun X e ha hX f a w hn hr K Q hK => by
  have hy := yielded_lit (ops := ops.toArray) (j := j) hr.2 (by simpa using hd) (((ha _ (mem_rdE (by simp))).trans (ext_even st t)).trans ht)
  have : Region.wanted ⟨d, op, ty, pos, aft, some (j, b)⟩ (yielded ops.toArray a.tmps) = true := by simp only [Region.wanted, hy, beq_self_eq_true]
  rw [if_pos this]
  exact hs.x X (evens e) (fun s h => (ha _ (mem_rdE (List.mem_cons_of_mem _ h))).trans (ext_even st s)) hX f a w hn hr.2 K Q fun a' w' h => hK a' w' (rep_puts hr.1 h)) (puts_ext up st) (fpE_up up) h
theorem RunD.pass {ops : List Oper} {pre} {Q : (Nat → AV) → Nat → Prop} {d op ty pos aft j b b' t} {l : List Oper} (hd : (ops[j]?).bind (·.dst) = some t) (ht : st t = .c (.lit (.bool b))) (hb : b = !b') (hdn : n d = true)
  (h : RunD P n ops l (put st d (.tup [])) (nx + 1) ((rdE [t], fpE [d]) :: pre) Q) : RunD P n ops (⟨some d, op, ty, pos, aft, some (j, b')⟩ :: l) st nx pre Q :=
 RunD.act (up := upE [(d, .tup [])]) (fun X e ha hX f a w hn hr K Q hK => by
  have hy := yielded_lit (ops := ops.toArray) (j := j) hr.2 (by simpa using hd) (((ha _ (mem_rdE (by simp))).trans (ext_even st t)).trans ht)
  have : Region.wanted ⟨some d, op, ty, pos, aft, some (j, b')⟩ (yielded ops.toArray a.tmps) = false := by
   simp only [Region.wanted, hy, hb]
   cases b' <;> rfl
  rw [if_neg (by rw [this]; simp)]
  subst hn
  exact hK _ _ (rep_puts hr.1 ((hr.2.skip hdn).weaken fun _ h => .inl h))) (puts_ext _ st) (fpE_up _) h
theorem RunD.pass_undef {ops : List Oper} {pre} {Q : (Nat → AV) → Nat → Prop} {d op ty pos aft j b' t} {l : List Oper} (hd : (ops[j]?).bind (·.dst) = some t) (ht : st t = .tup []) (hdn : n d = true)
  (h : RunD P n ops l (put st d (.tup [])) (nx + 1) ((rdE [t], fpE [d]) :: pre) Q) : RunD P n ops (⟨some d, op, ty, pos, aft, some (j, b')⟩ :: l) st nx pre Q :=
 RunD.act (up := upE [(d, .tup [])]) (fun X e ha hX f a w hn hr K Q hK => by
  have hy := yielded_undef (ops := ops.toArray) (j := j) hr.2 (by simpa using hd) (((ha _ (mem_rdE (by simp))).trans (ext_even st t)).trans ht)
  have : Region.wanted ⟨some d, op, ty, pos, aft, some (j, b')⟩ (yielded ops.toArray a.tmps) = false := by
   simp only [Region.wanted, hy]
   rfl
  rw [if_neg (by rw [this]; simp)]
  subst hn
  exact hK _ _ (rep_puts hr.1 ((hr.2.skip hdn).weaken fun _ h => .inl h))) (puts_ext _ st) (fpE_up _) h
class Mixed (P : Program) : Prop where
 out : P.follows .mixedOrders = true
theorem WpA.draw [hm : Mixed P] {Q : Exit → (Nat → AV) → Nat → Prop} {id : Nat} {l : List Oper} (h : RunD P n l l st nx [] fun s k => Q .normal s k) : WpA P n (.region id l.toArray true) st nx Q := by
 intro f a w hn hr
 obtain ⟨its, st', h1, h2, h3⟩ := h
 refine wp_region_any hm.out ?_
 refine wpAny_of h1 (by simpa using h2) hn (fun a w hr => ⟨st', _, h3, hr.out⟩) _ _ a _ (by simp) ?_ ?_ ?_
 ·simp [countF, List.countP_replicate]
 ·intro i o ho h
  simp [Array.getD] at h
 ·have e : sel its 0 (fun j => (Array.replicate l.toArray.size false).getD j false) (ext st) = ext st := by
   have none : ∀ (its : List (List Nat × List (Nat × AV))) (i : Nat) (st : Nat → AV), sel its i (fun _ => false) st = st := by
    intro its
    induction its with
    | nil => intro i st; rfl
    | cons x r ih => intro i st; simp [sel, ih]
   rw [show (fun j => (Array.replicate l.toArray.size false).getD j false) = fun _ => false by funext j; simp [Array.getD]]
   exact none _ _ _
  rw [e]
  exact .of (hr.drew.weaken fun i hi => .inl hi)
end
end Go.Pv
namespace Go.Pv
open Go.RowKit Go.ChangeShapes Go.WideShapes Go.Deep
mutual
inductive Ty (P : Program) : TypeId → List D → Prop
 | int {t k n} : P.underlying t = some (.int k) → (Lit.int k n).wf = true → Ty P t [.lit (.int k n)]
 | bool {t b} : P.underlying t = some .bool → Ty P t [.lit (.bool b)]
 | str {t s} : P.underlying t = some .string → s.size ≤ maxLen → Ty P t [.lit (.string s)]
 | slice {t e parts} : P.underlying t = some (.slice e) → TyL P e parts → parts.length ≤ maxLen → Ty P t [.sl false (P.cellsOf e) parts.flatten]
 | struct {t fs ds} : P.underlying t = some (.struct fs) → TyF P (fs.toList.map (·.type)) ds → Ty P t ds
inductive TyL (P : Program) : TypeId → List (List D) → Prop
 | nil {e} : TyL P e []
 | cons {e p ps} : Ty P e p → TyL P e ps → TyL P e (p :: ps)
inductive TyF (P : Program) : List TypeId → List D → Prop
 | nil : TyF P [] []
 | cons {t ts ds ds'} : Ty P t ds → TyF P ts ds' → TyF P (t :: ts) (ds ++ ds')
end
def contig (P : Program) : List Field → Nat → Nat → Bool
 | [], at_, n => at_ == n
 | f :: fs, at_, n => f.offset == at_ && contig P fs (at_ + P.cellsOf f.type) n
def plainB (P : Program) : Nat → TypeId → Bool
 | 0, _ => false
 | n + 1, t => match P.underlying t with
  | some .bool => true
  | some (.int _) => true
  | some .string => true
  | some (.slice e) => plainB P n e
  | some (.struct fs) => contig P fs.toList 0 (P.cellsOf t) && fs.toList.all fun f => plainB P n f.type
  | _ => false
section
variable {H : Type} {enc : TypeId × Value → H} {P : Program} {w : World} {base : Nat} {spare : Nat → Bool} {held : Bool} {F : Nat → Prop}
theorem rds_app {r : Rho} : ∀ {ds ds' : List D} {us us' : List Value} {k : Nat}, RDs F w ds k r us [] → (∀ k, RDs F w ds' k r us' []) → RDs F w (ds ++ ds') k r (us ++ us') []
 | [], ds', us, us', k, h, h' => by simp only [RDs] at h; obtain ⟨rfl, _⟩ := h; exact h' k
 | d :: ds, ds', us, us', k, h, h' => by
  simp only [RDs] at h
  obtain ⟨u, v, L1, L2, rfl, e, h1, h2⟩ := h
  obtain ⟨rfl, rfl⟩ := List.append_eq_nil_iff.1 e.symm
  simp only [List.cons_append, RDs]
  exact ⟨u, v ++ us', [], [], rfl, rfl, h1, rds_app (k := k + 1) h2 h'⟩
theorem cell_lt {w : World} {a : Addr} {v : Value} (h : w.cell? a = some v) : a.block < w.heap.size := by
 unfold World.cell? at h
 cases hb : w.heap[a.block]? with
 | none => simp [hb] at h
 | some o => exact (Array.getElem?_eq_some_iff.1 hb).1
theorem elems_rd {e : TypeId} {a : Addr} {n : Nat} (ih : ∀ {cs x}, DataW.trod enc P w base spare held n e cs = some x → ∃ ds, Ty P e ds ∧ ∀ k r, RDs (fun g => g < w.heap.size) w ds k r cs []) :
  ∀ (len : Nat), (∀ i, i < len → ∃ cs x, w.cells? base (a.add (i * P.cellsOf e)) (P.cellsOf e) = some cs ∧ DataW.trod enc P w base spare held n e cs = some x) →
   ∃ parts us, TyL P e parts ∧ parts.length = len ∧ us.length = len * P.cellsOf e ∧ (∀ k r, RDs (fun g => g < w.heap.size) w parts.flatten k r us []) ∧ ∀ (j : Nat) (u : Value), us[j]? = some u → w.cell? (a.add j) = some u
 | 0, _ => ⟨[], [], .nil, rfl, by simp, fun k r => by simp [RDs], fun j u h => by simp at h⟩
 | len + 1, h => by
  obtain ⟨parts, us, h1, h2, h3, h4, h5⟩ := elems_rd ih len fun i hi => h i (by omega)
  obtain ⟨cs, x, hc, hx⟩ := h len (by omega)
  obtain ⟨ds, hd, hr⟩ := ih hx
  obtain ⟨_, hl, hg⟩ := World.cells?_some hc
  have snoc : ∀ {ps : List (List D)}, TyL P e ps → TyL P e (ps ++ [ds]) := by
   intro ps hp
   induction ps with
   | nil => exact .cons hd .nil
   | cons p ps ihp => cases hp with | cons a b => exact .cons a (ihp b)
  refine ⟨parts ++ [ds], us ++ cs, snoc h1, by simp [h2], by rw [List.length_append, h3, hl, Nat.succ_mul], fun k r => ?_, fun j u hj => ?_⟩
  ·rw [List.flatten_append]
   exact rds_app (k := k) (h4 k r) fun k => by simpa using hr k r
  ·rw [List.getElem?_append] at hj
   split at hj
   ·exact h5 j u hj
   ·rename_i hlt
    have hjlt : j - us.length < cs.length := (List.getElem?_eq_some_iff.1 hj).1
    have := hg (j - us.length) (by omega)
    rw [add_add, hj] at this
    rw [← this]
    congr 2
    omega
theorem fields_rd : ∀ (fs : List Field) (cs : List Value) (at_ : Nat), contig P fs at_ (at_ + cs.length) = true →
      (∀ f ∈ fs, ∃ ds, Ty P f.type ds ∧ ∀ k r, RDs F w ds k r ((cs.drop (f.offset - at_)).take (P.cellsOf f.type)) []) →
      ∃ ds, TyF P (fs.map (·.type)) ds ∧ ∀ k r, RDs F w ds k r cs []
  | [], cs, at_, h, _ => by
    simp [contig] at h
    subst h
    exact ⟨[], .nil, fun k r => by simp [RDs]⟩
  | f :: fs, cs, at_, h, hx => by
    simp only [contig, Bool.and_eq_true, beq_iff_eq] at h
    obtain ⟨h1, h2⟩ := h
    have mono : ∀ (fs : List Field) (a m : Nat), contig P fs a m = true → a ≤ m ∧ ∀ f ∈ fs, a ≤ f.offset := by
      intro fs
      induction fs with
      | nil => intro a m h; simp [contig] at h; exact ⟨by omega, by simp⟩
      | cons f fs ih =>
        intro a m h
        simp only [contig, Bool.and_eq_true, beq_iff_eq] at h
        have := ih _ _ h.2
        exact ⟨by omega, fun g hg => by rcases List.mem_cons.1 hg with rfl | hg; · omega
                                        · have := this.2 g hg; omega⟩
    have hm := mono _ _ _ h2
    obtain ⟨d1, t1, r1⟩ := hx f (by simp)
    have hlen : at_ + P.cellsOf f.type + (cs.drop (P.cellsOf f.type)).length = at_ + cs.length := by
      rw [List.length_drop]; omega
    obtain ⟨d2, t2, r2⟩ := fields_rd fs (cs.drop (P.cellsOf f.type)) (at_ + P.cellsOf f.type) (by rw [hlen]; exact h2) (fun g hg => by
      obtain ⟨d, t, r⟩ := hx g (List.mem_cons_of_mem _ hg)
      refine ⟨d, t, fun k ρ => ?_⟩
      have := r k ρ
      rw [List.drop_drop, show P.cellsOf f.type + (g.offset - (at_ + P.cellsOf f.type)) = g.offset - at_ by have := hm.2 g hg; omega]
      exact this)
    refine ⟨d1 ++ d2, .cons t1 t2, fun k r => ?_⟩
    have h3 := r1 k r
    rw [h1, Nat.sub_self, List.drop_zero] at h3
    have := rds_app (k := k) h3 fun k => r2 k r
    rwa [List.take_append_drop] at this
theorem trod_rd : ∀ (N : Nat) {t : TypeId} {fuel : Nat} {cs : List Value} {x : DataW H × List MemPlace}, plainB P N t = true → DataW.trod enc P w base spare held fuel t cs = some x →
  ∃ ds, Ty P t ds ∧ ∀ k r, RDs (fun g => g < w.heap.size) w ds k r cs []
 | 0, _, _, _, _, h, _ => by simp [plainB] at h
 | N + 1, t, fuel, cs, x, h, hx => by
  unfold plainB at h
  cases hu : P.underlying t with
  | none => simp [hu] at h
  | some u =>
   cases u with
   | bool =>
    obtain ⟨b, rfl, _⟩ := DataW.trod_bool hu hx
    exact ⟨_, .bool hu, fun k r => by simp only [RDs, RD]; exact ⟨_, [], [], [], rfl, rfl, ⟨rfl, rfl, rfl⟩, rfl, rfl⟩⟩
   | int k =>
    obtain ⟨b, rfl, _, hw⟩ := DataW.trod_int hu hx
    exact ⟨_, .int hu hw, fun k r => by simp only [RDs, RD]; exact ⟨_, [], [], [], rfl, rfl, ⟨rfl, rfl, rfl⟩, rfl, rfl⟩⟩
   | string =>
    obtain ⟨b, rfl, _, hw⟩ := DataW.trod_string hu hx
    exact ⟨_, .str hu hw, fun k r => by simp only [RDs, RD]; exact ⟨_, [], [], [], rfl, rfl, ⟨rfl, rfl, rfl⟩, rfl, rfl⟩⟩
   | slice e =>
    simp only [hu] at h
    rcases Go.Deep.open_slice hu hx with ⟨rfl, _⟩ | ⟨a, len, cap, m, n, Df, Pl, rfl, _, hl, hm, hmm, _, hall⟩
    ·refine ⟨_, .slice hu .nil (Nat.zero_le _), fun k r => ?_⟩
     simp only [RDs, RD, List.flatten_nil]
     exact ⟨_, [], [], [], rfl, rfl, ⟨rfl, [], ⟨none, 0, 0, rfl, by simp, Nat.le_refl _, Nat.zero_le _, fun h => absurd rfl h⟩, by simp⟩, by simp⟩
    ·have hml : len ≤ m := by rw [hmm]; split <;> omega
     obtain ⟨parts, us, h1, h2, h3, h4, h5⟩ := elems_rd (fun hx => trod_rd N h hx) len (a := a) (n := n) (fun i hi => by
      obtain ⟨cs', k1, k2⟩ := hall i (by omega)
      exact ⟨cs', _, k1, k2⟩)
     refine ⟨_, .slice hu h1 (by omega), fun k r => ?_⟩
     simp only [RDs, RD]
     refine ⟨_, [], [], [], rfl, rfl, ⟨rfl, us, ⟨some a, len, cap, rfl, h3.symm, hl, hm, fun hne => ⟨a, rfl, ?_, h5⟩⟩, h4 0 _⟩, rfl, rfl⟩
     match us, hne with
     | u :: us', _ =>
      have := cell_lt (h5 0 u rfl)
      rwa [add_block] at this
   | struct fs =>
    simp only [hu, Bool.and_eq_true, List.all_eq_true] at h
    obtain ⟨xs, n, rfl, rfl, hl, hxl, hall⟩ := DataW.trod_struct hu hx
    obtain ⟨ds, h1, h2⟩ := fields_rd (P := P) (w := w) (F := fun g => g < w.heap.size) fs.toList cs 0 (by rw [Nat.zero_add, hl]; exact h.1) (fun f hf => by
     obtain ⟨i, hi, he⟩ := List.getElem_of_mem hf
     have hi' : i < fs.size := by simpa using hi
     have hfi : fs[i]? = some f := by rw [← he]; simp [hi']
     have := hall i f hfi
     have hxi : xs[i]? = some xs[i] := List.getElem?_eq_getElem (by omega)
     rw [hxi] at this
     rw [Nat.sub_zero]
     exact trod_rd N (h.2 f hf) this)
    exact ⟨ds, .struct hu h1, h2⟩
   | _ => simp [hu] at h
inductive Sees (P : Program) : List TypeId → List Arg → Prop
 | nil : Sees P [] []
 | one {t ts d as} : (∀ fs, P.underlying t ≠ some (.struct fs)) → Ty P t [d] → Sees P ts as → Sees P (t :: ts) (.sh (.one d) :: as)
 | agg {t ts fs ds as} : P.underlying t = some (.struct fs) → Ty P t ds → Sees P ts as → Sees P (t :: ts) (.sh (.agg ds) :: as)
def plain1 (P : Program) (t : TypeId) : Bool := plainB P 12 t
theorem sees_of {b0 : Nat} {W : World} : ∀ {ts : List TypeId} {vs : List Value} {ds : List (DataW H)} {ps : List MemPlace}, (∀ t ∈ ts, plain1 P t = true) →
  (∀ (j : Nat) t v, ts[j]? = some t → vs[j]? = some v → Value.okWide P W .any b0 t v) → DataW.TrodAll enc P W 0 (fun _ => true) true ts vs ds ps →
  ∃ as, Sees P ts as ∧ ArgsR (fun g => g < W.heap.size) W as vs []
 | [], _, _, _, _, _, h => by
  obtain ⟨rfl, rfl, rfl⟩ := trodAll_nil h
  exact ⟨[], .nil, by simp [ArgsR]⟩
 | t :: ts, _, _, _, hp, hv, h => by
  obtain ⟨v, vs', d, ds', p, q, rfl, rfl, rfl, h1, h2⟩ := trodAll_cons h
  obtain ⟨as, k1, k2⟩ := sees_of (fun t ht => hp t (List.mem_cons_of_mem _ ht)) (fun j t' v' a b => hv (j + 1) t' v' (by simpa using a) (by simpa using b)) h2
  have hok := hv 0 t v rfl rfl
  obtain ⟨fuel, hf⟩ := h1
  have hpt := hp t (by simp)
  obtain ⟨dd, t1, r1⟩ := trod_rd 12 hpt hf
  cases hu : P.underlying t with
  | none => simp [plain1, plainB, hu] at hpt
  | some u =>
   have fin : (∀ fs, P.underlying t ≠ some (.struct fs)) → ∀ dd, Ty P t dd → (∀ k r, RDs (fun g => g < W.heap.size) W dd k r [v] []) → ∃ as, Sees P (t :: ts) as ∧ ArgsR (fun g => g < W.heap.size) W as (v :: vs') [] := by
    intro hns dd t1 r1
    have hl := RDs.length (r1 0 fun _ => undef)
    match dd, hl with
    | [d], _ =>
     have := r1 0 fun _ => undef
     simp only [RDs] at this
     obtain ⟨u, us', L1, L2, e1, e2, h3, h4, h5⟩ := this
     obtain ⟨rfl, rfl⟩ := List.append_eq_nil_iff.1 e2.symm
     obtain ⟨rfl, rfl⟩ := List.cons.inj e1
     refine ⟨_, .one hns t1 k1, ?_⟩
     simp only [ArgsR]
     exact ⟨_, _, [], [], rfl, rfl, ⟨rfl, _, h3⟩, k2⟩
   cases u with
   | struct fs =>
    obtain ⟨cs, rfl, _⟩ := okWide_struct hu hok
    refine ⟨_, .agg hu t1 k1, ?_⟩
    simp only [ArgsR]
    refine ⟨_, _, [], [], rfl, rfl, ⟨rfl, fun _ => undef, cs.toList, by simp, ?_⟩, k2⟩
    simpa [Value.cells] using r1 0 fun _ => undef
   | bool => obtain ⟨b, rfl⟩ := okWide_bool hu hok; exact fin (fun fs e => by rw [hu] at e; cases e) _ t1 (by simpa [Value.cells] using r1)
   | int k => obtain ⟨b, rfl⟩ := okWide_int hu hok; exact fin (fun fs e => by rw [hu] at e; cases e) _ t1 (by simpa [Value.cells] using r1)
   | string => obtain ⟨b, rfl⟩ := okWide_string hu hok; exact fin (fun fs e => by rw [hu] at e; cases e) _ t1 (by simpa [Value.cells] using r1)
   | slice e => obtain ⟨a, b, c, rfl⟩ := okWide_slice hu hok; exact fin (fun fs e => by rw [hu] at e; cases e) _ t1 (by simpa [Value.cells] using r1)
   | _ => simp [plain1, plainB, hu] at hpt
theorem trodAll_below {W W' : World} (hl : laidOutB P = true) (hb : Below W.heap.size W W') : ∀ {ts : List TypeId} {vs : List Value} {ds : List (DataW H)} {ps : List MemPlace},
  (∀ t ∈ ts, P.readableRec t = true ∧ t < P.types.size) → (∀ x ∈ ps, x.block < W.heap.size) → DataW.TrodAll enc P W 0 (fun _ => true) true ts vs ds ps →
  DataW.TrodAll enc P W' 0 (fun b => decide (b < W.heap.size)) true ts vs ds ps
 | [], _, _, _, _, _, h => by
  obtain ⟨rfl, rfl, rfl⟩ := trodAll_nil h
  exact trodAll_mk0
 | t :: ts, _, _, _, hp, hlt, h => by
  obtain ⟨v, vs', d, ds', p, q, rfl, rfl, rfl, h1, h2⟩ := trodAll_cons h
  have ht := hp t (by simp)
  exact ⟨p, q, h1.elim fun f hf => Below.trod hl ht.1 ht.2 ⟨f, hf⟩ hb (fun x hx => hlt x (by simp [hx])), trodAll_below hl hb (fun t ht => hp t (List.mem_cons_of_mem _ ht)) (fun x hx => hlt x (by simp [hx])) h2, rfl⟩
theorem law_contract {K : FuncId} {fn : Func} {s : ChangeSpec} {tb : TypeId} (hl : laidOutB P = true) (hts' : (fn.params.toList.all fun t => plain1 P t && P.readableRec t && decide (t < P.types.size)) = true)
  (hv : s.vars = []) (hr : fn.resultTypes = #[tb]) (hb : P.underlying tb = some .bool)
  (hs : ∀ ds : List (DataW H), ds.length = fn.params.toList.length → (s.fn H ds).results = [.lit (.bool true)] ∧ (s.fn H ds).args = ds ∧ (s.fn H ds).vars = [])
  (hc : ∀ as, Sees P fn.params.toList as → CallA P K as [.one (.lit (.bool true))] [])
  (W : World) (b0 : Nat) (args : Array Value) (ds gs : List (DataW H)) (before : List MemPlace)
  (hval : ∀ (j : Nat) t v, fn.params[j]? = some t → args[j]? = some v → Value.okWide P W .any b0 t v)
  (hW : DataW.Whole enc P fn.params.toList s.vars false W args.toList ds gs before) :
  Calls P K args W fun e W' => ∃ v, e = .returned v ∧ s.post enc P fn false true false false W args v W' := by
 have hts : ∀ t ∈ fn.params.toList, plain1 P t = true ∧ P.readableRec t = true ∧ t < P.types.size := by
  intro t ht
  have := List.all_eq_true.1 hts' t ht
  simpa [and_assoc] using this
 have hlt := hW.lt
 have hW' := hW
 obtain ⟨p, q, hA, hV, rfl, hfz, hnd⟩ := hW
 rw [hv] at hV
 obtain ⟨rfl, rfl⟩ := trodVars_none hV
 simp only [List.append_nil] at hW' hlt hfz hnd
 obtain ⟨as, hsee, hargs⟩ := sees_of (fun t ht => (hts t ht).1) (fun j t v a b => hval j t v (by simpa using a) (by simpa using b)) hA
 refine (hc as hsee W args.toList [] (fun g => g < W.heap.size) (fun g hg => ⟨hg, by simp⟩) hargs (by simp) (by simp)).mono fun e W' he => ?_
 obtain ⟨us, Lr, Lo, rfl, hk, hvr, _⟩ := he
 simp only [VRs, VR, RD] at hvr
 obtain ⟨u, us', L1, L2, rfl, _, ⟨r, rfl, _, _⟩, rfl, _⟩ := hvr
 have hbel : Below W.heap.size W W' := ⟨hk.os, hk.tape, hk.output, hk.size, fun k h => hk.block k h (by simp)⟩
 have hlen : ds.length = fn.params.toList.length := by
  have : ∀ {ts : List TypeId} {vs : List Value} {ds : List (DataW H)} {ps : List MemPlace}, DataW.TrodAll enc P W 0 (fun _ => true) true ts vs ds ps → ds.length = ts.length := by
   intro ts
   induction ts with
   | nil => intro vs ds ps h; obtain ⟨_, rfl, _⟩ := trodAll_nil h; rfl
   | cons t ts ih => intro vs ds ps h; obtain ⟨_, _, _, _, _, _, rfl, rfl, rfl, _, h2⟩ := trodAll_cons h; simp [ih h2]
  exact this hA
 obtain ⟨e1, e2, e3⟩ := hs ds hlen
 refine ⟨_, rfl, ds, [], p, [], p, [], hW', ?_, ?_, ?_, hbel.frame _, fun h => by cases h⟩
 ·rw [List.append_nil, e1, hr]
  exact trodAll_mk1 (shut_bool hb _)
 ·rw [List.append_nil, e2]
  exact trodAll_below hl hbel (fun t ht => (hts t ht).2) hlt hA
 ·rw [List.append_nil, e3, hv]
  rfl
end
section
variable {P : Program}
theorem ty_int {t k ds} (hu : P.underlying t = some (.int k)) (h : Ty P t ds) : ∃ n, ds = [.lit (.int k n)] ∧ (Lit.int k n).wf = true := by
 cases h with
 | int h1 h2 => rw [hu] at h1; cases h1; exact ⟨_, rfl, h2⟩
 | bool h1 => rw [hu] at h1; cases h1
 | str h1 => rw [hu] at h1; cases h1
 | slice h1 => rw [hu] at h1; cases h1
 | struct h1 => rw [hu] at h1; cases h1
theorem ty_slice {t e ds} (hu : P.underlying t = some (.slice e)) (h : Ty P t ds) : ∃ parts, ds = [.sl false (P.cellsOf e) parts.flatten] ∧ TyL P e parts ∧ parts.length ≤ maxLen := by
 cases h with
 | int h1 h2 => rw [hu] at h1; cases h1
 | bool h1 => rw [hu] at h1; cases h1
 | str h1 => rw [hu] at h1; cases h1
 | slice h1 h2 h3 => rw [hu] at h1; cases h1; exact ⟨_, rfl, h2, h3⟩
 | struct h1 => rw [hu] at h1; cases h1
theorem tyL_map {α : Type} {e parts} (g : α → List D) (q : α → Prop) (h : TyL P e parts) (hg : ∀ p, Ty P e p → ∃ a, p = g a ∧ q a) : ∃ l : List α, parts = l.map g ∧ ∀ a ∈ l, q a := by
 induction parts with
 | nil => exact ⟨[], rfl, by simp⟩
 | cons p ps ih =>
  cases h with
  | cons h1 h2 =>
   obtain ⟨l, rfl, hl⟩ := ih h2
   obtain ⟨a, rfl, ha⟩ := hg p h1
   exact ⟨a :: l, rfl, by simpa using ⟨ha, hl⟩⟩
theorem sees_nil {as} (h : Sees P [] as) : as = [] := by cases h; rfl
theorem sees_one {t ts as} (hu : ∀ fs, P.underlying t ≠ some (.struct fs)) (h : Sees P (t :: ts) as) : ∃ d as', as = .sh (.one d) :: as' ∧ Ty P t [d] ∧ Sees P ts as' := by
 cases h with
 | one _ h1 h2 => exact ⟨_, _, rfl, h1, h2⟩
 | agg h1 => exact absurd h1 (hu _)
end
end Go.Pv
namespace Go.Pv
open Go.RowKit
section
variable {P : Program} {T : TypeId}
theorem SliceTy.of {e : TypeId} {z : Value} {sz bytes : Nat} (hu : P.underlying T = some (.slice e)) (hi : (P.info? e).map (fun i => (i.zero, i.size, i.bytes)) = some (some z, sz, bytes)) (h : (decide (0 < sz) && decide (sz ≤ 16) && decide (bytes ≤ 128) && (z.cells.size == sz)) = true) : SliceTy P T sz := by
 obtain ⟨i, h1, h2⟩ := Option.map_eq_some_iff.1 hi
 simp only [Prod.mk.injEq] at h2
 obtain ⟨h2, h3, h4⟩ := h2
 simp only [Bool.and_eq_true, decide_eq_true_eq, beq_iff_eq] at h
 exact ⟨e, i, z, hu, h1, h3, h.1.1.1, h.1.1.2, by rw [h4]; exact h.1.2, h2, h.2⟩
def oneDesc : TypeDesc → Bool
 | .struct _ => false
 | .array _ _ => false
 | _ => true
theorem OneTy.of {d : TypeDesc} (hu : P.underlying T = some d) (hd : oneDesc d = true) (hi : (P.info? T).map (·.size) = some 1) : OneTy P T := by
 obtain ⟨i, h1, h2⟩ := Option.map_eq_some_iff.1 hi
 exact ⟨d, i, hu, by cases d <;> first | rfl | exact hd, h1, h2⟩
theorem StructTy.of {fs : Array Field} {sz : Nat} (hu : P.underlying T = some (.struct fs)) (hi : (P.info? T).map (·.size) = some sz) : StructTy P T sz := by
 obtain ⟨i, h1, h2⟩ := Option.map_eq_some_iff.1 hi
 exact ⟨fs, i, hu, h1, h2⟩
theorem FieldTy.of {fs : Array Field} {k off ft s : Nat} (hu : P.underlying T = some (.struct fs)) (hf : (fs[k]?).map (fun f => (f.offset, f.type)) = some (off, ft)) (hi : (P.info? ft).map (·.size) = some (s + 1)) : FieldTy P T k off := by
 obtain ⟨f, h1, h2⟩ := Option.map_eq_some_iff.1 hf
 simp only [Prod.mk.injEq] at h2
 obtain ⟨rfl, rfl⟩ := h2
 obtain ⟨i, h3, h4⟩ := Option.map_eq_some_iff.1 hi
 exact ⟨fs, f, i, hu, h1, rfl, h3, by omega⟩
theorem ZeroTy.of {z : Value} {ds : List D} (hi : (P.info? T).map (·.zero) = some (some z)) (h : ZeroDs z.cells.toList ds) : ZeroTy P T ds := by
 obtain ⟨i, h1, h2⟩ := Option.map_eq_some_iff.1 hi
 exact ⟨i, z, h1, h2, h⟩
theorem MakeTy.of {e : TypeId} {z : Value} {bytes : Nat} {d0 : D} (hu : P.underlying T = some (.slice e)) (hi : (P.info? e).map (fun i => (i.zero, i.size, i.bytes)) = some (some z, 1, bytes)) (h : bytes ≤ 128) (hc : z.cells = #[z]) (hz : ZeroD z d0) : MakeTy P T d0 := by
 obtain ⟨i, h1, h2⟩ := Option.map_eq_some_iff.1 hi
 simp only [Prod.mk.injEq] at h2
 obtain ⟨h2, h3, h4⟩ := h2
 exact ⟨e, i, z, hu, h1, h3, by rw [h4]; exact h, h2, hc, hz⟩
theorem zL_ {v : Value} (h : v.oneCell' = true) : ZeroD v (.lit v) := by
 cases v with
 | slice a b c => cases a <;> cases b <;> cases c <;> exact ⟨rfl, h⟩
 | _ => exact ⟨rfl, h⟩
theorem zero_nil {sz : Nat} : ZeroD (.slice none 0 0) (.sl true sz []) := trivial
end
end Go.Pv
