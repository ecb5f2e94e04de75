/- The rules by which a walk goes on by itself. No condition. -/
import Derived.Test.YtmgmpnhlehonmaaGreatWPvF
import Derived.Test.YtmgmpnhlehonmaaGreatWPvL
set_option linter.unusedVariables false
set_option linter.unusedSimpArgs false
namespace Go.Pv
open Go.RowKit
section
variable {P : Program} {n : NN} {nid : Nat} {st : Nat -> AV}
def Zez (x : Int) : Prop := -9223372036854775808 <= x /\ x <= 9223372036854775807
theorem J9 {x : Int} (h : Zez x) : IntKind.i64.wrap x = x := by
 unfold Zez at h
 rw [IntKind.wrap_i64]; omega
theorem Vo {d : Nat} {op : BinOp} {T T' : TypeId} {x y : Operand} {u v r : Value} {ty pos aft g} (hx : Lit st x u) (hy : Lit st y v) (hr : r.oneCell' = true)
  (h : ∀ w : World, (do eqGuard op T x y u v; binOp op T u v : Sem Value).run P w = .ok r w) (hd : n d = true) :
  Zg P n ⟨some d, .binOp op T x y T', ty, pos, aft, g⟩ nid st (Z5 x ++ Z5 y) [(d, .c (.lit r))] := by
 have := Vz (P := P) (n := n) (nid := nid) (st := st) (o := ⟨some d, .binOp op T x y T', ty, pos, aft, g⟩) (d := d) (u := r) [(x, u), (y, v)] rfl hd hr (by simpa using ⟨hx, hy⟩) (fun ev w hev => by
  have e1 := hev (x, u) (by simp)
  have e2 := hev (y, v) (by simp)
  simp only at e1 e2
  have := h w
  simp only [execOp, e1, e2, Sem.run_bind] at this ⊢
  rw [this]
  rfl)
 simpa using this
theorem Xs (op : BinOp) (T : TypeId) (x y : Operand) (k k' : IntKind) (a b : Int) (w : World) : (eqGuard op T x y (.int k a) (.int k' b)).run P w = .ok () w := by
 unfold eqGuard
 cases op <;> simp
theorem Zbn (op : BinOp) (T : TypeId) (x y : Operand) (a b : Bool) (w : World) : (eqGuard op T x y (.bool a) (.bool b)).run P w = .ok () w := by
 unfold eqGuard
 cases op <;> simp
section ints
variable {d : Nat} {T T' : TypeId} {x y : Operand} {k : IntKind} {a b : Int} {ty : TypeId} {pos : String} {aft : Array Edge} {g : Option (Nat × Bool)}
theorem Zmm (hx : Lit st x (.int k a)) (hy : Lit st y (.int k b)) (hd : n d = true) : Zg P n ⟨some d, .binOp .add T x y T', ty, pos, aft, g⟩ nid st (Z5 x ++ Z5 y) [(d, .c (.lit (.int k (k.wrap (a + b)))))] :=
 Vo hx hy rfl (fun w => by simp [Xs, binOp, Op.intArith]) hd
theorem Ztq (hx : Lit st x (.int k a)) (hy : Lit st y (.int k b)) (hd : n d = true) : Zg P n ⟨some d, .binOp .sub T x y T', ty, pos, aft, g⟩ nid st (Z5 x ++ Z5 y) [(d, .c (.lit (.int k (k.wrap (a - b)))))] :=
 Vo hx hy rfl (fun w => by simp [Xs, binOp, Op.intArith]) hd
theorem Zmn (hx : Lit st x (.int k a)) (hy : Lit st y (.int k b)) (hd : n d = true) : Zg P n ⟨some d, .binOp .mul T x y T', ty, pos, aft, g⟩ nid st (Z5 x ++ Z5 y) [(d, .c (.lit (.int k (k.wrap (a * b)))))] :=
 Vo hx hy rfl (fun w => by simp [Xs, binOp, Op.intArith]) hd
theorem Ztr (hx : Lit st x (.int k a)) (hy : Lit st y (.int k b)) (hb : b ≠ 0) (hd : n d = true) : Zg P n ⟨some d, .binOp .quo T x y T', ty, pos, aft, g⟩ nid st (Z5 x ++ Z5 y) [(d, .c (.lit (.int k (k.wrap (a.tdiv b)))))] :=
 Vo hx hy rfl (fun w => by simp [Xs, binOp, Op.intDiv, hb]) hd
theorem Zts (hx : Lit st x (.int k a)) (hy : Lit st y (.int k b)) (hb : b ≠ 0) (hd : n d = true) : Zg P n ⟨some d, .binOp .rem T x y T', ty, pos, aft, g⟩ nid st (Z5 x ++ Z5 y) [(d, .c (.lit (.int k (a.tmod b))))] :=
 Vo hx hy rfl (fun w => by simp [Xs, binOp, Op.intDiv, hb]) hd
theorem Zmo (hx : Lit st x (.int .i64 a)) (hy : Lit st y (.int .i64 b)) (h : Zez (a + b)) (hd : n d = true) : Zg P n ⟨some d, .binOp .add T x y T', ty, pos, aft, g⟩ nid st (Z5 x ++ Z5 y) [(d, .c (.lit (.int .i64 (a + b))))] := by
 have := Zmm (P := P) (n := n) (nid := nid) (T := T) (T' := T') (ty := ty) (pos := pos) (aft := aft) (g := g) hx hy hd
 rwa [J9 h] at this
theorem Zmp (hx : Lit st x (.int .i64 a)) (hy : Lit st y (.int .i64 b)) (h : Zez (a - b)) (hd : n d = true) : Zg P n ⟨some d, .binOp .sub T x y T', ty, pos, aft, g⟩ nid st (Z5 x ++ Z5 y) [(d, .c (.lit (.int .i64 (a - b))))] := by
 have := Ztq (P := P) (n := n) (nid := nid) (T := T) (T' := T') (ty := ty) (pos := pos) (aft := aft) (g := g) hx hy hd
 rwa [J9 h] at this
theorem Zmq (hx : Lit st x (.int .i64 a)) (hy : Lit st y (.int .i64 b)) (h : Zez (a * b)) (hd : n d = true) : Zg P n ⟨some d, .binOp .mul T x y T', ty, pos, aft, g⟩ nid st (Z5 x ++ Z5 y) [(d, .c (.lit (.int .i64 (a * b))))] := by
 have := Zmn (P := P) (n := n) (nid := nid) (T := T) (T' := T') (ty := ty) (pos := pos) (aft := aft) (g := g) hx hy hd
 rwa [J9 h] at this
theorem Zmr (hx : Lit st x (.int .i64 a)) (hy : Lit st y (.int .i64 b)) (ha : 0 <= a) (ha' : a <= 9223372036854775807) (hb : 0 < b) (hd : n d = true) : Zg P n ⟨some d, .binOp .quo T x y T', ty, pos, aft, g⟩ nid st (Z5 x ++ Z5 y) [(d, .c (.lit (.int .i64 (a / b))))] := by
 have := Ztr (P := P) (n := n) (nid := nid) (T := T) (T' := T') (ty := ty) (pos := pos) (aft := aft) (g := g) hx hy j2 hd
 rw [Int.tdiv_eq_ediv_of_nonneg ha, J9 ⟨by have := Int.ediv_nonneg ha (Int.le_of_lt hb); omega, by have := Int.ediv_le_self b ha; omega⟩] at this
 exact this
theorem Zms (hx : Lit st x (.int k a)) (hy : Lit st y (.int k b)) (ha : 0 <= a) (hb : 0 < b) (hd : n d = true) : Zg P n ⟨some d, .binOp .rem T x y T', ty, pos, aft, g⟩ nid st (Z5 x ++ Z5 y) [(d, .c (.lit (.int k (a % b))))] := by
 have := Zts (P := P) (n := n) (nid := nid) (T := T) (T' := T') (ty := ty) (pos := pos) (aft := aft) (g := g) hx hy j2 hd
 rw [Int.tmod_eq_emod_of_nonneg ha] at this
 exact this
theorem Ztt (hx : Lit st x (.int k a)) (hy : Lit st y (.int k b)) (hd : n d = true) : Zg P n ⟨some d, .binOp .eql T x y T', ty, pos, aft, g⟩ nid st (Z5 x ++ Z5 y) [(d, .c (.lit (.bool (decide (a = b)))))] :=
 Vo hx hy rfl (fun w => by simp [Xs, binOp, Op.intCmp]; rfl) hd
theorem Ztu (hx : Lit st x (.int k a)) (hy : Lit st y (.int k b)) (hd : n d = true) : Zg P n ⟨some d, .binOp .neq T x y T', ty, pos, aft, g⟩ nid st (Z5 x ++ Z5 y) [(d, .c (.lit (.bool (decide (a ≠ b)))))] :=
 Vo hx hy rfl (fun w => by simp [Xs, binOp, Op.intCmp, bne]; rfl) hd
theorem Ztv (hx : Lit st x (.int k a)) (hy : Lit st y (.int k b)) (hd : n d = true) : Zg P n ⟨some d, .binOp .lss T x y T', ty, pos, aft, g⟩ nid st (Z5 x ++ Z5 y) [(d, .c (.lit (.bool (decide (a < b)))))] :=
 Vo hx hy rfl (fun w => by simp [Xs, binOp, Op.intCmp]) hd
theorem Ztw (hx : Lit st x (.int k a)) (hy : Lit st y (.int k b)) (hd : n d = true) : Zg P n ⟨some d, .binOp .leq T x y T', ty, pos, aft, g⟩ nid st (Z5 x ++ Z5 y) [(d, .c (.lit (.bool (decide (a <= b)))))] :=
 Vo hx hy rfl (fun w => by simp [Xs, binOp, Op.intCmp]) hd
theorem Ztx (hx : Lit st x (.int k a)) (hy : Lit st y (.int k b)) (hd : n d = true) : Zg P n ⟨some d, .binOp .gtr T x y T', ty, pos, aft, g⟩ nid st (Z5 x ++ Z5 y) [(d, .c (.lit (.bool (decide (b < a)))))] :=
 Vo hx hy rfl (fun w => by simp [Xs, binOp, Op.intCmp]) hd
theorem Zty (hx : Lit st x (.int k a)) (hy : Lit st y (.int k b)) (hd : n d = true) : Zg P n ⟨some d, .binOp .geq T x y T', ty, pos, aft, g⟩ nid st (Z5 x ++ Z5 y) [(d, .c (.lit (.bool (decide (b <= a)))))] :=
 Vo hx hy rfl (fun w => by simp [Xs, binOp, Op.intCmp]) hd
class J0 (P : Program) (T : TypeId) (k : outParam IntKind) : Prop where
 out : P.underlying T = some (.int k)
theorem Ws {S : TypeId} [hT : J0 P T k] {k0 k1 : IntKind} [hS : J0 P S k1] (hx : Lit st x (.int k0 a)) (hd : n d = true) : Zg P n ⟨some d, .convert S T x, ty, pos, aft, g⟩ nid st (Z5 x) [(d, .c (.lit (.int k (k.wrap a))))] := by
 have := Vz (P := P) (n := n) (nid := nid) (st := st) (o := ⟨some d, .convert S T x, ty, pos, aft, g⟩) (d := d) (u := .int k (k.wrap a)) [(x, .int k0 a)] rfl hd rfl (by simpa using hx) (fun ev w hev => by
  have e1 := hev (x, .int k0 a) (by simp)
  simp only at e1
  simp [execOp, e1, convert, run_underlying hS.out, run_underlying hT.out, Conv.intToInt])
 simpa using this
theorem Ze0 {S : TypeId} [hT : J0 P T .i64] {k0 k1 : IntKind} [hS : J0 P S k1] (hx : Lit st x (.int k0 a)) (h : Zez a) (hd : n d = true) : Zg P n ⟨some d, .convert S T x, ty, pos, aft, g⟩ nid st (Z5 x) [(d, .c (.lit (.int .i64 a)))] := by
 have := Ws (P := P) (n := n) (nid := nid) (S := S) (T := T) (ty := ty) (pos := pos) (aft := aft) (g := g) hx hd
 rwa [J9 h] at this
theorem Ztz (hx : Lit st x (.int k a)) (hd : n d = true) : Zg P n ⟨some d, .unOp .neg T x, ty, pos, aft, g⟩ nid st (Z5 x) [(d, .c (.lit (.int k (k.wrap (0 - a)))))] := by
 have := Vz (P := P) (n := n) (nid := nid) (st := st) (o := ⟨some d, .unOp .neg T x, ty, pos, aft, g⟩) (d := d) (u := .int k (k.wrap (0 - a))) [(x, .int k a)] rfl hd rfl (by simpa using hx) (fun ev w hev => by
  have e1 := hev (x, .int k a) (by simp)
  simp only at e1
  simp [execOp, e1, Op.unary, Op.intArith])
 simpa using this
theorem Zmt (hx : Lit st x (.int .i64 a)) (h : Zez (-a)) (hd : n d = true) : Zg P n ⟨some d, .unOp .neg T x, ty, pos, aft, g⟩ nid st (Z5 x) [(d, .c (.lit (.int .i64 (-a))))] := by
 have := Ztz (P := P) (n := n) (nid := nid) (T := T) (ty := ty) (pos := pos) (aft := aft) (g := g) hx hd
 rwa [Int.zero_sub, J9 h] at this
end ints
section bools
variable {d : Nat} {T T' : TypeId} {x y z : Operand} {b : Bool} {ty : TypeId} {pos : String} {aft : Array Edge} {g : Option (Nat × Bool)}
theorem Zt0 (hx : Lit st x (.bool b)) (hd : n d = true) : Zg P n ⟨some d, .unOp .not T x, ty, pos, aft, g⟩ nid st (Z5 x) [(d, .c (.lit (.bool (!b))))] := by
 have := Vz (P := P) (n := n) (nid := nid) (st := st) (o := ⟨some d, .unOp .not T x, ty, pos, aft, g⟩) (d := d) (u := .bool (!b)) [(x, .bool b)] rfl hd rfl (by simpa using hx) (fun ev w hev => by
  have e1 := hev (x, .bool b) (by simp)
  simp only at e1
  simp [execOp, e1, Op.unary])
 simpa using this
theorem Zgi {v : Value} (hx : Lit st x (.bool true)) (hy : Lit st y v) (hv : v.oneCell' = true) (hd : n d = true) : Zg P n ⟨some d, .pick x y z, ty, pos, aft, g⟩ nid st (Z5 x ++ Z5 y) [(d, .c (.lit v))] := by
 have := Vz (P := P) (n := n) (nid := nid) (st := st) (o := ⟨some d, .pick x y z, ty, pos, aft, g⟩) (d := d) (u := v) [(x, .bool true), (y, v)] rfl hd hv (by simpa using ⟨hx, hy⟩) (fun ev w hev => by
  have e1 := hev (x, .bool true) (by simp)
  have e2 := hev (y, v) (by simp)
  simp only at e1 e2
  simp [execOp, e1, e2, asBool])
 simpa using this
theorem Ze1 {v : Value} (hx : Lit st x (.bool false)) (hz : Lit st z v) (hv : v.oneCell' = true) (hd : n d = true) : Zg P n ⟨some d, .pick x y z, ty, pos, aft, g⟩ nid st (Z5 x ++ Z5 z) [(d, .c (.lit v))] := by
 have := Vz (P := P) (n := n) (nid := nid) (st := st) (o := ⟨some d, .pick x y z, ty, pos, aft, g⟩) (d := d) (u := v) [(x, .bool false), (z, v)] rfl hd hv (by simpa using ⟨hx, hz⟩) (fun ev w hev => by
  have e1 := hev (x, .bool false) (by simp)
  have e2 := hev (z, v) (by simp)
  simp only at e1 e2
  simp [execOp, e1, e2, asBool])
 simpa using this
end bools
theorem Ze2 {o : Oper} {d t : Nat} {av : AV} (hop : o.op = .move (.tmp t) \/ o.op = .assign (.tmp t)) (hdst : o.dst = some d) (h : st t = av) (_hav : (match av with | .tup _ | .agg _ | .raw _ => true | _ => false) = true) (hd : n d = true) (_hdt : d ≠ t) :
  Zg P n o nid st [t] [(t, .dead), (d, av)] := by
 intro X st' hs hX f a w hn hrep K Q hK
 obtain ⟨ρ, L, hr⟩ := hrep
 subst hn
 have ht : st' t = av := (hs t (by simp)).trans h
 have hv := hr.slots t
 have hi := hr.ids t
 rw [ht] at hv hi
 have hm := hr.toM.detach t .dead [] (L t) w7 u3 (fun g hg => by simpa using hg) List.nodup_nil (hr.nodup t) (by simp)
 rw [List.nil_append] at hm
 refine wV_ (u := tmp a t) (w' := w) ?_ ?_
 ·rcases hop with e | e <;> simp only [execOp, e] <;> rfl
 ·rw [hdst]
  exact hm.put_raw (av := av) hK hd _ w [] (by simp) (Zy.refl w) (L t) hv (hr.nodup t) (fun g hg => ⟨(hr.bound t g hg).1, .inl hg⟩) hi
theorem Ze3 {d t : Nat} {l : List AV} {ty pos aft g} (h : st t = .agg l) (hd : n d = true) (hdt : d ≠ t) : Zg P n ⟨some d, .assign (.tmp t), ty, pos, aft, g⟩ nid st [t] [(t, .dead), (d, .agg l)] :=
 Ze2 (.inr rfl) rfl h rfl hd hdt
theorem SRs.at {F : Nat -> Prop} {w : World} {ρ : Nat -> Rho} : ∀ (l : List AV) (vs : List Value) (L : List Nat), SRs F w ρ l vs L -> ∀ (j : Nat) (x : AV), l[j]? = some x -> ∃ u A L1 B, vs[j]? = some u /\ L = A ++ (L1 ++ B) /\ SR F w ρ x u L1 /\ SRs F w ρ (l.set j .dead) vs (A ++ B)
 | [], _, _, _, j, x, hx => by simp at hx
 | y :: l, vs, L, h, 0, x, hx => by
  simp only [SRs] at h
  obtain ⟨v, vs', L1, L2, rfl, rfl, h1, h2⟩ := h
  simp only [List.getElem?_cons_zero, Option.some.injEq] at hx
  subst hx
  refine ⟨v, [], L1, L2, rfl, rfl, h1, ?_⟩
  simp only [List.set_cons_zero, SRs]
  exact ⟨v, vs', [], L2, rfl, rfl, by simp only [SR], h2⟩
 | y :: l, vs, L, h, j + 1, x, hx => by
  simp only [SRs] at h
  obtain ⟨v, vs', L1, L2, rfl, rfl, h1, h2⟩ := h
  simp only [List.getElem?_cons_succ] at hx
  obtain ⟨u, A, M, B, hu, rfl, hM, hrest⟩ := SRs.at l vs' L2 h2 j x hx
  refine ⟨u, L1 ++ A, M, B, by simpa using hu, by simp, hM, ?_⟩
  simp only [List.set_cons_succ, SRs]
  exact ⟨v, vs', L1, A ++ B, rfl, by simp, h1, hrest⟩
theorem Uf {vs : List Value} {j : Nat} {u : Value} (h : vs[j]? = some u) (w : World) : (Instr.extract (.tuple vs.toArray) j).run P w = .ok u w := by
 simp [Instr.extract, h]
theorem Zmu {l : List AV} {j : Nat} {x : AV} (h : l[j]? = some x) : ∀ i ∈ x.ids, i ∈ AV.idss l := by
 induction l generalizing j with
 | nil => simp at h
 | cons y l ih =>
  intro i hi
  cases j with
  | zero => simp only [List.getElem?_cons_zero, Option.some.injEq] at h; subst h; simp [AV.idss, hi]
  | succ j => simp only [List.getElem?_cons_succ] at h; simp [AV.idss, ih h i hi]
theorem Zbo {l : List AV} {j : Nat} : ∀ i ∈ AV.idss (l.set j .dead), i ∈ AV.idss l := by
 induction l generalizing j with
 | nil => simp
 | cons y l ih =>
  intro i hi
  cases j with
  | zero => simp only [List.set_cons_zero, AV.idss, AV.ids, List.nil_append] at hi; simp [AV.idss, hi]
  | succ j =>
   simp only [List.set_cons_succ, AV.idss, List.mem_append] at hi ⊢
   rcases hi with hi | hi
   ·exact .inl hi
   ·exact .inr (ih i hi)
theorem Zgj {d t j : Nat} {l : List AV} {dd : D} {ty pos aft g} (h : st t = .tup l) (hj : l[j]? = some (.c dd)) (hd : n d = true) :
  Zg P n ⟨some d, .extract (.tmp t) j, ty, pos, aft, g⟩ nid st [t] [(d, .c dd)] := by
 intro X st' hs hX f a w hn hrep K Q hK
 obtain ⟨ρ, L, hr⟩ := hrep
 subst hn
 have ht := hr.slots t
 rw [(hs t (by simp)).trans h] at ht
 simp only [SR] at ht
 obtain ⟨vs, e0, hv⟩ := ht
 obtain ⟨u, A, L1, B, hu, _, hx, _⟩ := SRs.at l vs _ hv j _ hj
 refine wV_ (u := u) (w' := w) ?_ (hr.done_light hK hd _ w (Zy.refl w) (by simp only [SR] at hx ⊢; exact ⟨trivial, hx.2⟩) u3)
 have e1 : a.eval (.tmp t) = _ := e0
 simp only [execOp, e1, Sem.run_bind, Uf hu, Result.andThen_ok, Sem.run_pure]
theorem Zc5 {d t j : Nat} {l : List AV} {dd : D} {ty pos aft g} (h : st t = .tup l) (hj : l[j]? = some (.raw dd)) (hd : n d = true) :
  Zg P n ⟨some d, .extract (.tmp t) j, ty, pos, aft, g⟩ nid st [t] [(t, .tup (l.set j .dead)), (d, .own nid dd)] := by
 intro X st' hs hX f a w hn hrep K Q hK
 obtain ⟨ρ, L, hr⟩ := hrep
 subst hn
 have ht := hr.slots t
 have hi := hr.ids t
 rw [(hs t (by simp)).trans h] at ht hi
 simp only [SR] at ht
 obtain ⟨vs, e0, hv⟩ := ht
 obtain ⟨u, A, L1, B, hu, eL, hx, hrest⟩ := SRs.at l vs _ hv j _ hj
 simp only [SR] at hx
 obtain ⟨r, hx⟩ := hx
 have hnd := hr.nodup t
 rw [eL] at hnd
 simp only [List.nodup_append, List.mem_append] at hnd
 have hm := hr.toM.detach t (.tup (l.set j .dead)) (A ++ B) L1 (by simp only [SR]; exact ⟨vs, e0, hrest⟩) (fun i hi' => hi i (by simp only [AV.ids] at hi' ⊢; exact Zbo i hi')) (fun g hg => by rw [eL]; simp only [List.mem_append] at hg ⊢; grind) (by simp only [List.nodup_append]; grind) hnd.2.1.1 (fun g hg hg' => by simp only [List.mem_append] at hg; grind)
 rw [List.nil_append] at hm
 refine wV_ (u := u) (w' := w) ?_ (hm.put_root (K := K) (d := d) hK hd hX _ w [] (by simp) (Zy.refl w) r L1 hx hm.nd (fun g hg => ⟨(hm.bound g hg).1, .inl hg⟩))
 have e1 : a.eval (.tmp t) = _ := e0
 simp only [execOp, e1, Sem.run_bind, Uf hu, Result.andThen_ok, Sem.run_pure]
theorem Zc6 {d t j : Nat} {l l' : List AV} {ty pos aft g} (h : st t = .tup l) (hj : l[j]? = some (.agg l')) (hd : n d = true) :
  Zg P n ⟨some d, .extract (.tmp t) j, ty, pos, aft, g⟩ nid st [t] [(t, .tup (l.set j .dead)), (d, .agg l')] := by
 intro X st' hs hX f a w hn hrep K Q hK
 obtain ⟨ρ, L, hr⟩ := hrep
 subst hn
 have ht := hr.slots t
 have hi := hr.ids t
 rw [(hs t (by simp)).trans h] at ht hi
 simp only [SR] at ht
 obtain ⟨vs, e0, hv⟩ := ht
 obtain ⟨u, A, L1, B, hu, eL, hx, hrest⟩ := SRs.at l vs _ hv j _ hj
 have hnd := hr.nodup t
 rw [eL] at hnd
 simp only [List.nodup_append, List.mem_append] at hnd
 have hm := hr.toM.detach t (.tup (l.set j .dead)) (A ++ B) L1 (by simp only [SR]; exact ⟨vs, e0, hrest⟩) (fun i hi' => hi i (by simp only [AV.ids] at hi' ⊢; exact Zbo i hi')) (fun g hg => by rw [eL]; simp only [List.mem_append] at hg ⊢; grind) (by simp only [List.nodup_append]; grind) hnd.2.1.1 (fun g hg hg' => by simp only [List.mem_append] at hg; grind)
 rw [List.nil_append] at hm
 refine wV_ (u := u) (w' := w) ?_ (hm.put_raw (K := K) (d := d) (id := nid) hK hd _ w [] (by simp) (Zy.refl w) L1 hx hm.nd (fun g hg => ⟨(hm.bound g hg).1, .inl hg⟩) (fun i hi' => hi i (by simp only [AV.ids] at hi' ⊢; exact Zmu hj i w9)))
 have e1 : a.eval (.tmp t) = _ := e0
 simp only [execOp, e1, Sem.run_bind, Uf hu, Result.andThen_ok, Sem.run_pure]
def Zfp : AV -> AV
 | .c d => .c d
 | _ => .dead
theorem Zjg {F : Nat -> Prop} {w : World} {ρ : Nat -> Rho} : ∀ {l : List AV} {vs : List Value} {L : List Nat}, SRs F w ρ l vs L -> SRs F w ρ (l.map Zfp) vs []
 | [], vs, L, h => by simp only [SRs] at h; simp only [List.map_nil, SRs]; exact ⟨h.1, trivial⟩
 | x :: l, vs, L, h => by
  simp only [SRs] at h
  obtain ⟨v, vs', L1, L2, rfl, rfl, h1, h2⟩ := h
  simp only [List.map_cons, SRs]
  refine ⟨v, vs', [], [], rfl, rfl, ?_, Zjg h2⟩
  cases x <;> simp only [Zfp, SR] at h1 ⊢
  exact ⟨trivial, h1.2⟩
theorem Zgk : ∀ (l : List AV), AV.idss (l.map Zfp) = []
 | [] => rfl
 | x :: l => by
  simp only [List.map_cons, AV.idss, Zgk l, List.append_nil]
  cases x <;> rfl
theorem Zgl {d t : Nat} {l : List AV} {ty pos aft g} (h : st t = .tup l) (hd : n d = true) (hdt : d ≠ t) :
  Zg P n ⟨some d, .move (.tmp t), ty, pos, aft, g⟩ nid st [t] [(t, .tupn nid l), (d, .tupr t nid (l.map Zfp))] := by
 intro X st' hs hX f a w hn hrep K Q hK
 obtain ⟨ρ, L, hr⟩ := hrep
 subst hn
 have ht : st' t = _ := (hs t (by simp)).trans h
 have hv := hr.slots t
 have hi := hr.ids t
 rw [ht] at hv hi
 simp only [SR] at hv
 obtain ⟨vs, e0, hv⟩ := hv
 have hfin : ∀ i, X i -> (fun i => if i = nid then (fun _ => tmp a t) else ρ i : Nat -> Rho) i = ρ i := fun i hi' => by simp only; rw [if_neg (by rintro rfl; exact hX hi')]
 have hv' : SRs f.F w (fun i => if i = nid then (fun _ => tmp a t) else ρ i) l vs (L t) := SRs.same (fun _ h => h) (fun _ _ => rfl) l vs _ hv (fun _ _ => rfl) (fun i hi' => hfin i (hi i w9))
 refine wV_ (u := tmp a t) (w' := w) rfl (hK _ _ ⟨fun i => if i = nid then (fun _ => tmp a t) else ρ i, fun s => if s = d then [] else L s, ?_⟩)
 refine hr.step (fun s => s = d \/ s = t) [] _ _ _ w _ _ (X4 _ _ _) (X7 _ _ _) (Yj _ hd) (Zy.refl w) (by simp) hfin
  (fun s hs' => ?_) (fun s hs' => ?_) (fun s u hs' hu hne g hg hgu => ?_) (fun _ h => .inl h) (fun s hs' i hi' => ?_)
 ·have h1 : s ≠ d := fun e => hs' (.inl e)
  have h2 : s ≠ t := fun e => hs' (.inr e)
  exact ⟨by simp [Zn, put, h1, h2], Zm _ _ _ _ h1, by simp [h1]⟩
 ·rcases hs' with rfl | rfl
  ·simp only [Zn, Zo, Z9 _ _ _ (hr.size _ hd), if_true, SR]
   exact ⟨⟨trivial, vs, e0, Zjg hv'⟩, List.nodup_nil, fun g hg => by simp at hg⟩
  ·simp only [Zn, Zi _ _ _ _ hdt.symm, Zo, if_neg hdt.symm, SR, Zm _ _ _ _ hdt.symm, if_true]
   exact ⟨⟨trivial, vs, e0, hv'⟩, hr.nodup s, fun g hg => ⟨(hr.bound s g hg).1, .inl ⟨s, .inr rfl, hg⟩⟩⟩
 ·rcases hs' with rfl | rfl <;> rcases hu with rfl | rfl
  ·exact hne rfl
  ·simp at hg
  ·simp at hgu
  ·exact hne rfl
 ·rcases hs' with rfl | rfl
  ·simp only [Zn, Zo, AV.ids, Zgk, List.mem_singleton] at hi'; exact .inr hi'
  ·simp only [Zn, Zi _ _ _ _ hdt.symm, Zo, AV.ids, List.mem_cons] at hi'
   rcases hi' with rfl | hi'
   ·exact .inr rfl
   ·exact .inl (hi i w9)
theorem Za2 {d t x id j : Nat} {l : List AV} {dd : D} {ty pos aft g} (h : st t = .tupr x id l) (hj : l[j]? = some (.c dd)) (hd : n d = true) :
  Zg P n ⟨some d, .extract (.tmp t) j, ty, pos, aft, g⟩ nid st [t] [(d, .c dd)] := by
 intro X st' hs hX f a w hn hrep K Q hK
 obtain ⟨ρ, L, hr⟩ := hrep
 subst hn
 have ht := hr.slots t
 rw [(hs t (by simp)).trans h] at ht
 simp only [SR] at ht
 obtain ⟨_, vs, e0, hv⟩ := ht
 obtain ⟨u, A, L1, B, hu, _, hx, _⟩ := SRs.at l vs _ hv j _ hj
 refine wV_ (u := u) (w' := w) ?_ (hr.done_light hK hd _ w (Zy.refl w) (by simp only [SR] at hx ⊢; exact ⟨trivial, hx.2⟩) u3)
 have e1 : a.eval (.tmp t) = _ := e0
 simp only [execOp, e1, Sem.run_bind, Uf hu, Result.andThen_ok, Sem.run_pure]
theorem Kv {d t x id j : Nat} {l l2 : List AV} {dd : D} {ty pos aft g} (h : st t = .tupr x id l) (h2 : st x = .tupn id l2) (hj : l2[j]? = some (.raw dd)) (hd : n d = true) :
  Zg P n ⟨some d, .extract (.tmp t) j, ty, pos, aft, g⟩ nid st [t, x] [(x, .tupn id (l2.set j .dead)), (d, .own nid dd)] := by
 intro X st' hs hX f a w hn hrep K Q hK
 obtain ⟨ρ, L, hr⟩ := hrep
 subst hn
 have h0 := hr.slots t
 rw [(hs t (by simp)).trans h] at h0
 simp only [SR] at h0
 obtain ⟨ev, _⟩ := h0
 have ht := hr.slots x
 have hi := hr.ids x
 rw [(hs x (by simp)).trans h2] at ht hi
 simp only [SR] at ht
 obtain ⟨en, vs, e0, hv⟩ := ht
 obtain ⟨u, A, L1, B, hu, eL, hx, hrest⟩ := SRs.at l2 vs _ hv j _ hj
 simp only [SR] at hx
 obtain ⟨r, hx⟩ := hx
 have hnd := hr.nodup x
 rw [eL] at hnd
 simp only [List.nodup_append, List.mem_append] at hnd
 have hm := hr.toM.detach x (.tupn id (l2.set j .dead)) (A ++ B) L1 (by simp only [SR]; exact ⟨en, vs, e0, hrest⟩) (fun i hi' => hi i (by simp only [AV.ids, List.mem_cons] at hi' ⊢; exact hi'.imp_right (Zbo i))) (fun g hg => by rw [eL]; simp only [List.mem_append] at hg ⊢; grind) (by simp only [List.nodup_append]; grind) hnd.2.1.1 (fun g hg hg' => by simp only [List.mem_append] at hg; grind)
 rw [List.nil_append] at hm
 refine wV_ (u := u) (w' := w) ?_ (hm.put_root (K := K) (d := d) hK hd hX _ w [] (by simp) (Zy.refl w) r L1 hx hm.nd (fun g hg => ⟨(hm.bound g hg).1, .inl hg⟩))
 have e1 : a.eval (.tmp t) = .tuple vs.toArray := by
  have : a.eval (.tmp t) = ρ id [] := ev
  rw [this, <- en, e0]
 simp only [execOp, e1, Sem.run_bind, Uf hu, Result.andThen_ok, Sem.run_pure]
theorem Kw {d t x id j : Nat} {l l2 l' : List AV} {ty pos aft g} (h : st t = .tupr x id l) (h2 : st x = .tupn id l2) (hj : l2[j]? = some (.agg l')) (hd : n d = true) :
  Zg P n ⟨some d, .extract (.tmp t) j, ty, pos, aft, g⟩ nid st [t, x] [(x, .tupn id (l2.set j .dead)), (d, .agg l')] := by
 intro X st' hs hX f a w hn hrep K Q hK
 obtain ⟨ρ, L, hr⟩ := hrep
 subst hn
 have h0 := hr.slots t
 rw [(hs t (by simp)).trans h] at h0
 simp only [SR] at h0
 obtain ⟨ev, _⟩ := h0
 have ht := hr.slots x
 have hi := hr.ids x
 rw [(hs x (by simp)).trans h2] at ht hi
 simp only [SR] at ht
 obtain ⟨en, vs, e0, hv⟩ := ht
 obtain ⟨u, A, L1, B, hu, eL, hx, hrest⟩ := SRs.at l2 vs _ hv j _ hj
 have hnd := hr.nodup x
 rw [eL] at hnd
 simp only [List.nodup_append, List.mem_append] at hnd
 have hm := hr.toM.detach x (.tupn id (l2.set j .dead)) (A ++ B) L1 (by simp only [SR]; exact ⟨en, vs, e0, hrest⟩) (fun i hi' => hi i (by simp only [AV.ids, List.mem_cons] at hi' ⊢; exact hi'.imp_right (Zbo i))) (fun g hg => by rw [eL]; simp only [List.mem_append] at hg ⊢; grind) (by simp only [List.nodup_append]; grind) hnd.2.1.1 (fun g hg hg' => by simp only [List.mem_append] at hg; grind)
 rw [List.nil_append] at hm
 refine wV_ (u := u) (w' := w) ?_ (hm.put_raw (K := K) (d := d) (id := nid) hK hd _ w [] (by simp) (Zy.refl w) L1 hx hm.nd (fun g hg => ⟨(hm.bound g hg).1, .inl hg⟩) (fun i hi' => hi i (by simp only [AV.ids, List.mem_cons] at hi' ⊢; exact .inr (Zmu hj i w9))))
 have e1 : a.eval (.tmp t) = .tuple vs.toArray := by
  have : a.eval (.tmp t) = ρ id [] := ev
  rw [this, <- en, e0]
 simp only [execOp, e1, Sem.run_bind, Uf hu, Result.andThen_ok, Sem.run_pure]
end
end Go.Pv
namespace Go.Pv
open Go.RowKit
section
variable {P : Program} {n : NN} {nid : Nat} {st : Nat -> AV} {nx : Nat}
theorem Zeg {st : Nat -> AV} {t : Nat} {v : AV} (h : st t = v) : put st t v = st := by
 funext s; unfold put; split
 ·rename_i e; subst e; exact h.symm
 ·rfl
theorem Zb {k : IntKind} {a b : Int} (h : a = b) : AV.c (.lit (.int k a)) = AV.c (.lit (.int k b)) := by rw [h]
theorem Zxh {a b : Bool} (h : a = b) : AV.c (.lit (.bool a)) = AV.c (.lit (.bool b)) := by rw [h]
def lits (l : List Value) : List D := l.map D.lit
theorem eL_ (l : List Value) : D.erases (lits l) = lits l := by
 unfold lits; rw [D.erases_eq]; simp [D.erase]
theorem Zeh (l : List Value) : D.solids (lits l) = true := by
 unfold lits
 induction l with
 | nil => rfl
 | cons v l ih => simpa [D.solids, D.solid] using ih
variable {Q : Exit -> (Nat -> AV) -> Nat -> Prop}
theorem WpA.cond_true {c : Operand} {x y : Code} (hc : Lit st c (.bool true)) (h : WpA P n x st nx Q) : WpA P n (.cond c x y) st nx Q :=
 WpA.cond hc (fun _ => h) (fun h => by cases h)
theorem WpA.cond_false {c : Operand} {x y : Code} (hc : Lit st c (.bool false)) (h : WpA P n y st nx Q) : WpA P n (.cond c x y) st nx Q :=
 WpA.cond hc (fun h => by cases h) (fun _ => h)
theorem WpA.cond_ntrue {c : Operand} {x y : Code} (hc : Lit st c (.bool (!true))) (h : WpA P n y st nx Q) : WpA P n (.cond c x y) st nx Q :=
 WpA.cond hc (fun h => by cases h) (fun _ => h)
theorem WpA.cond_dec {c : Operand} {x y : Code} {p : Prop} {hp : Decidable p} (hc : Lit st c (.bool (@decide p hp))) (h1 : p -> WpA P n x st nx Q) (h2 : ¬ p -> WpA P n y st nx Q) : WpA P n (.cond c x y) st nx Q :=
 WpA.cond hc (fun h => h1 (of_decide_eq_true h)) (fun h => h2 (of_decide_eq_false h))
theorem WpA.cond_not {c : Operand} {x y : Code} {p : Prop} {hp : Decidable p} (hc : Lit st c (.bool (!@decide p hp))) (h1 : ¬ p -> WpA P n x st nx Q) (h2 : p -> WpA P n y st nx Q) : WpA P n (.cond c x y) st nx Q :=
 WpA.cond hc (fun h => h1 (of_decide_eq_false v6)) (fun h => h2 (of_decide_eq_true v6))
def Z6 (P : Program) (fn : Func) (args : List Arg) (rs : List V) (outs : List D) (e : Exit) (s : Nat -> AV) (_ : Nat) : Prop :=
 (e = .normal \/ e = .ret) /\ ∃ s', Kt P s fn.results.toList rs s' /\ Uy s' 0 args outs
theorem Z6.ret {fn : Func} {args : List Arg} {rs rs' : List V} {outs outs' : List D} {s s' : Nat -> AV} {k : Nat} (hr : Kt P s fn.results.toList rs' s') (ho : Uy s' 0 args outs') (h : rs' = rs) (h' : outs' = outs) : Z6 P fn args rs outs .ret s k := by
 subst h h'; exact ⟨.inr rfl, s', hr, ho⟩
theorem Z6.normal {fn : Func} {args : List Arg} {rs rs' : List V} {outs outs' : List D} {s s' : Nat -> AV} {k : Nat} (hr : Kt P s fn.results.toList rs' s') (ho : Uy s' 0 args outs') (h : rs' = rs) (h' : outs' = outs) : Z6 P fn args rs outs .normal s k := by
 subst h h'; exact ⟨.inl rfl, s', hr, ho⟩
theorem cA_ {K : FuncId} {fn : Func} {c : Code} {args : List Arg} {rs : List V} {outs : List D} (m : Nat) (hf : P.funcs[K]? = some fn) (hb : fn.body = some c) (hm : fn.ntmps = m)
  (hs : rs.all V.solid = true /\ D.solids outs = true) (h : WpA P ⟨fun d => decide (d < m) && !((Yf 0 args).contains d), [], [], []⟩ c (X2 args) args.length (Z6 P fn args rs outs)) : Zj P K args rs outs :=
 Zml (n := ⟨fun d => decide (d < m) && !((Yf 0 args).contains d), [], [], []⟩) hf hb (fun d hd => by
  rw [hm]; simp only [Bool.and_eq_true, decide_eq_true_eq] at hd; exact hd.1) (fun p hp => by simp [hp]) rfl rfl (.inl ⟨rfl, rfl⟩) (fun _ => hs) h
theorem Zbp {K : FuncId} {fn : Func} {c : Code} {args : List Arg} {rs : List V} {outs : List D} (m : Nat) (hf : P.funcs[K]? = some fn) (hb : fn.body = some c) (hm : fn.ntmps = m)
  (h : WpA P ⟨fun d => decide (d < m) && !((Yf 0 args).contains d), [], [], Kg⟩ c (X2 args) args.length (Z6 P fn args rs outs)) : Zjf P K args rs outs :=
 Zml (n := ⟨fun d => decide (d < m) && !((Yf 0 args).contains d), [], [], Kg⟩) hf hb (fun d hd => by
  rw [hm]; simp only [Bool.and_eq_true, decide_eq_true_eq] at hd; exact hd.1) (fun p hp => by simp [hp]) rfl rfl (.inr rfl) (fun h => by cases h) h
theorem Ziy {d t x id : Nat} {path : List Nat} {ty pos aft g} (h : st t = .als x id path) (hd : n d = true) : Zg P n ⟨some d, .move (.tmp t), ty, pos, aft, g⟩ nid st [t] [(d, .als x id path)] := Y7 h rfl hd
theorem Ziz {d t x id sz lo m : Nat} {path : List Nat} {ty pos aft g} (h : st t = .sub x id path sz lo m) (hd : n d = true) : Zg P n ⟨some d, .move (.tmp t), ty, pos, aft, g⟩ nid st [t] [(d, .sub x id path sz lo m)] := Y7 h rfl hd
theorem Zi0 {d t x id off : Nat} {path : List Nat} {ty pos aft g} (h : st t = .ptr x id path off) (hd : n d = true) : Zg P n ⟨some d, .move (.tmp t), ty, pos, aft, g⟩ nid st [t] [(d, .ptr x id path off)] := Y7 h rfl hd
theorem Zgm {d t off : Nat} {cs : List D} {ty pos aft g} (h : st t = .sptr cs off) (hd : n d = true) : Zg P n ⟨some d, .move (.tmp t), ty, pos, aft, g⟩ nid st [t] [(d, .sptr cs off)] := Y7 h rfl hd
theorem Ze4 {d t x id : Nat} {path : List Nat} {ty pos aft g} (h : st t = .als x id path) (hd : n d = true) : Zg P n ⟨some d, .assign (.tmp t), ty, pos, aft, g⟩ nid st [t] [(d, .als x id path)] := Yg h rfl hd
theorem Ze5 {d t x id sz lo m : Nat} {path : List Nat} {ty pos aft g} (h : st t = .sub x id path sz lo m) (hd : n d = true) : Zg P n ⟨some d, .assign (.tmp t), ty, pos, aft, g⟩ nid st [t] [(d, .sub x id path sz lo m)] := Yg h rfl hd
theorem Ze6 {d t x id off : Nat} {path : List Nat} {ty pos aft g} (h : st t = .ptr x id path off) (hd : n d = true) : Zg P n ⟨some d, .assign (.tmp t), ty, pos, aft, g⟩ nid st [t] [(d, .ptr x id path off)] := Yg h rfl hd
theorem Zc7 {d t off : Nat} {cs : List D} {ty pos aft g} (h : st t = .sptr cs off) (hd : n d = true) : Zg P n ⟨some d, .assign (.tmp t), ty, pos, aft, g⟩ nid st [t] [(d, .sptr cs off)] := Yg h rfl hd
theorem Ze7 {d sz : Nat} {T : TypeId} {pos aft g} [Zu P T sz] (hd : n d = true) : Zg P n ⟨some d, .assign (.const (.slice none 0 0)), T, pos, aft, g⟩ nid st [] [(d, .own nid (.sl true sz []))] :=
 Q7 .nil hd
end
end Go.Pv
