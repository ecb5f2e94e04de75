/- Calls that write into their first argument and hand it back; whether a slice is nil. No condition. -/
import Derived.Test.YtakecbnclmjloaaXPvM
import Derived.Laws.Cover3
namespace Go.Pv
set_option linter.unusedVariables false
set_option linter.unusedSimpArgs false
open Go.RowKit
section
variable {P : Program} {n : NN} {st : Nat → AV} {nx nid : Nat}
theorem Then.next {K : (Nat → AV) → Nat → Prop} {Q : Exit → (Nat → AV) → Nat → Prop} {s : Nat → AV} {k : Nat} (h : K s k) : Then K Q .normal s k := h
theorem InBlock.next {Q : Exit → (Nat → AV) → Nat → Prop} {id : Nat} {s : Nat → AV} {k : Nat} (h : Q .normal s k) : InBlock id Q .normal s k := h
abbrev ints (l : List Int) : List D := l.map fun x => D.lit (.int .i64 x)
theorem map_get {α : Type} {g : α → D} {L : List α} {i : Nat} (d0 : α) (h : i < L.length) : (L.map g)[i]? = some (g (L.getD i d0)) := by
  simp [List.getD, h]
theorem ints_get {l : List Int} {i : Nat} (h : i < l.length) : (l.map fun x => D.lit (.int .i64 x))[i]? = some (.lit (.int .i64 (l.getD i 0))) := map_get 0 h
theorem erases_ints (l : List Int) : D.erases (ints l) = ints l := by rw [D.erases_eq]; simp [D.erase]
theorem solids_ints (l : List Int) : D.solids (ints l) = true := by
  unfold ints
  induction l with
  | nil => rfl
  | cons a l ih => simp only [List.map_cons, D.solids, D.solid, ih, Bool.and_self]
theorem plain_ints (l : List Int) : ∀ d ∈ ints l, d.plain = true := by simp [D.plain]
theorem step_len_map {α : Type} {g : α → D} {L : List α} {d : Nat} {x : Operand} {T : TypeId} {sz' : Nat} {rd : List Nat} {ty pos aft gd} [SliceTy P T sz'] (hv : View st x rd 1 (L.map g)) (hd : n d = true) :
    Step P n ⟨some d, .call ⟨.builtin .len, #[x], #[T]⟩, ty, pos, aft, gd⟩ nid st rd [(d, .c (.lit (.int .i64 (L.length : Int))))] := by
  have := step_len (P := P) (n := n) (nid := nid) (ty := ty) (pos := pos) (aft := aft) (g := gd) (d := d) (T := T) (sz' := sz') hv L.length (by simp) (by decide) hd
  exact this
theorem step_store_ints {t x id off : Nat} {path : List Nat} {xv : Operand} {v : Int} {T : TypeId} {dd d1 : D} {l : List Int} {ty pos aft g} [OneTy P T] (h : st t = .ptr x id path off) (hx : st x = .own id dd) (hn' : dd.nav path = some d1) (hk : d1.kids = some (ints l))
    (hv : Lit st xv (.int .i64 v)) (hlt : off < l.length) :
    Step P n ⟨none, .store T (.tmp t) xv, ty, pos, aft, g⟩ nid st (t :: x :: rdOf xv) [(x, .own id (dd.put path (d1.withKids (ints (l.set off v)))))] := by
  have := step_store_lit (P := P) (n := n) (nid := nid) (T := T) (ty := ty) (pos := pos) (aft := aft) (g := g) h hx hn' hk (ints_get hlt) hv rfl
  rwa [show (ints l).set off (.lit (.int .i64 v)) = ints (l.set off v) by simp [ints, List.map_set]] at this
theorem replicate_ints (m : Nat) : List.replicate m (D.lit (.int .i64 0)) = ints (List.replicate m 0) := by simp [ints]
theorem step_make_ints {d : Nat} {T : TypeId} {x y : Operand} {k k' : IntKind} {i i' : Int} {ty pos aft g} [hT : MakeTy P T (.lit (.int .i64 0))] (hx : Lit st x (.int k i)) (hy : Lit st y (.int k' i')) (he : i' = i) (h0 : 0 ≤ i) (hm : i ≤ 1099511627776) (hd : n d = true) :
    Step P n ⟨some d, .makeSlice T x y, ty, pos, aft, g⟩ nid st (rdOf x ++ rdOf y) [(d, .own nid (.sl true 1 (ints (List.replicate i.toNat 0))))] := by
  rw [← replicate_ints]
  exact step_make hx hy (Int.toNat_of_nonneg h0).symm (by rw [he]; exact (Int.toNat_of_nonneg h0).symm) (by omega) hd
theorem own_ints {id sz : Nat} {l l' : List Int} (h : l = l') : AV.own id (.sl true sz (ints l)) = AV.own id (.sl true sz (ints l')) := by rw [h]
theorem c_ints {o : Bool} {sz : Nat} {l l' : List Int} (h : l = l') : AV.c (.sl o sz (ints l)) = AV.c (.sl o sz (ints l')) := by rw [h]
theorem fill_step : ∀ (l : List Int) (j : Nat), j < l.length → (l.take j ++ List.replicate (l.length - j) 0).set j (l.getD j 0) = l.take (j + 1) ++ List.replicate (l.length - (j + 1)) 0
  | [], _, h => by simp at h
  | a :: l, 0, _ => by simp [List.replicate_succ]
  | a :: l, j + 1, h => by
    have := fill_step l j (by simpa using h)
    simpa using this
theorem list_ext : ∀ {a b : List Int}, a.length = b.length → (∀ i, i < a.length → a.getD i 0 = b.getD i 0) → a = b
  | [], [], _, _ => rfl
  | [], _ :: _, h, _ => by simp at h
  | _ :: _, [], h, _ => by simp at h
  | x :: a, y :: b, h, e => by
    have h0 : x = y := by simpa using e 0 (by simp)
    rw [h0, list_ext (a := a) (b := b) (by simpa using h) fun i hi => by simpa using e (i + 1) (by simpa using hi)]
abbrev LL (L : List (List Int)) : List D := L.map fun l => D.sl true 1 (ints l)
abbrev LLs (L : List (List Int)) : List D := L.map fun l => D.sl false 1 (ints l)
theorem erases_LL (L : List (List Int)) : D.erases (LL L) = LLs L := by
  rw [D.erases_eq, List.map_map]
  refine List.map_congr_left fun l _ => ?_
  simp only [Function.comp_apply, D.erase, erases_ints]
theorem erases_LLs (L : List (List Int)) : D.erases (LLs L) = LLs L := by
  rw [D.erases_eq, List.map_map]
  refine List.map_congr_left fun l _ => ?_
  simp only [Function.comp_apply, D.erase, erases_ints]
theorem solids_LL (L : List (List Int)) : D.solids (LL L) = true := by
  unfold LL
  induction L with
  | nil => rfl
  | cons a l ih => simp only [List.map_cons, D.solids, D.solid, solids_ints, ih, Bool.and_self]
theorem LL_get {L : List (List Int)} {i : Nat} (h : i < L.length) : (L.map fun l => D.sl true 1 (ints l))[i]? = some (.sl true 1 (ints (L.getD i []))) := map_get [] h
theorem LLs_get {L : List (List Int)} {i : Nat} (h : i < L.length) : (L.map fun l => D.sl false 1 (ints l))[i]? = some (.sl false 1 (ints (L.getD i []))) := map_get [] h
theorem own_LL {id sz : Nat} {l l' : List (List Int)} (h : l = l') : AV.own id (.sl true sz (LL l)) = AV.own id (.sl true sz (LL l')) := by rw [h]
section
variable {d : Nat} {s x : Operand} {T : TypeId} {rd rd2 : List Nat} {up up2 : List (Nat × AV)} {ty : TypeId} {pos : String} {aft : Array Edge} {g : Option (Nat × Bool)}
theorem step_append_int1 {l : List Int} {v : Int} [hT : SliceTy P T 1] (h : Give st s rd (.sl true 1 (ints l)) up) (hv : View (puts st up) x rd2 1 [.lit (.int .i64 v)]) (hb : l.length ≤ 1099511627000) (hd : n d = true) :
    Step P n ⟨some d, .call ⟨.builtin .append, #[s, x], #[T, T]⟩, ty, pos, aft, g⟩ nid st (rd ++ rd2) (up ++ [(d, .own nid (.sl true 1 (ints (l ++ [v]))))]) := by
  have := step_append_view (P := P) (n := n) (nid := nid) (d := d) (T := T) (ty := ty) (pos := pos) (aft := aft) (g := g) h hv (by simp [D.plain]) (by simp; omega) hd
  rwa [show ints l ++ [.lit (.int .i64 v)] = ints (l ++ [v]) by simp [ints]] at this
theorem step_append_ints_sh {t : Nat} {l m : List Int} [hT : SliceTy P T 1] (h : Give st s rd (.sl true 1 (ints l)) up) (hv : puts st up t = .c (.sl false 1 (ints m))) (hb : l.length + m.length ≤ 1099511627776) (hd : n d = true) :
    Step P n ⟨some d, .call ⟨.builtin .append, #[s, .tmp t], #[T, T]⟩, ty, pos, aft, g⟩ nid st (rd ++ [t]) (up ++ [(d, .own nid (.sl true 1 (ints (l ++ m))))]) := by
  have := step_append_sh (P := P) (n := n) (nid := nid) (d := d) (T := T) (ty := ty) (pos := pos) (aft := aft) (g := g) h hv (by simpa using hb) hd
  rwa [show ints l ++ ints m = ints (l ++ m) by simp [ints]] at this
theorem step_append_sh0 {t : Nat} {sz : Nat} {ds : List D} [hT : SliceTy P T sz] (h : Give st s rd (.sl true sz []) up) (hv : puts st up t = .c (.sl false sz ds)) (hb : ds.length ≤ 1099511627776) (hd : n d = true) :
    Step P n ⟨some d, .call ⟨.builtin .append, #[s, .tmp t], #[T, T]⟩, ty, pos, aft, g⟩ nid st (rd ++ [t]) (up ++ [(d, .own nid (.sl true sz ds))]) := by
  have := step_append_sh (P := P) (n := n) (nid := nid) (d := d) (T := T) (ty := ty) (pos := pos) (aft := aft) (g := g) h hv (by simpa using hb) hd
  simpa only [List.nil_append] using this
theorem step_append_give0 {sz : Nat} {ds : List D} [hT : SliceTy P T sz] (h : Give st s rd (.sl true sz []) up) (hv : Give (puts st up) x rd2 (.sl true sz ds) up2) (hb : ds.length ≤ 1099511627776) (hd : n d = true) :
    Step P n ⟨some d, .call ⟨.builtin .append, #[s, x], #[T, T]⟩, ty, pos, aft, g⟩ nid st (rd ++ rd2) ((up ++ up2) ++ [(d, .own nid (.sl true sz ds))]) := by
  have := step_append_give (P := P) (n := n) (nid := nid) (d := d) (T := T) (ty := ty) (pos := pos) (aft := aft) (g := g) h hv (by simpa using hb) hd
  simpa only [List.nil_append] using this
theorem step_append_ints_view {l m : List Int} [hT : SliceTy P T 1] (h : Give st s rd (.sl true 1 (ints l)) up) (hv : View (puts st up) x rd2 1 (ints m)) (hb : l.length + m.length ≤ 1099511627776) (hd : n d = true) :
    Step P n ⟨some d, .call ⟨.builtin .append, #[s, x], #[T, T]⟩, ty, pos, aft, g⟩ nid st (rd ++ rd2) (up ++ [(d, .own nid (.sl true 1 (ints (l ++ m))))]) := by
  have := step_append_view (P := P) (n := n) (nid := nid) (d := d) (T := T) (ty := ty) (pos := pos) (aft := aft) (g := g) h hv (plain_ints m) (by simpa using hb) hd
  rwa [show ints l ++ ints m = ints (l ++ m) by simp [ints]] at this
theorem step_append_LL1 {L : List (List Int)} {l : List Int} [hT : SliceTy P T 1] (h : Give st s rd (.sl true 1 (LL L)) up) (hv : Give (puts st up) x rd2 (.sl true 1 [.sl true 1 (ints l)]) up2) (hb : L.length ≤ 1099511627000) (hd : n d = true) :
    Step P n ⟨some d, .call ⟨.builtin .append, #[s, x], #[T, T]⟩, ty, pos, aft, g⟩ nid st (rd ++ rd2) ((up ++ up2) ++ [(d, .own nid (.sl true 1 (LL (L ++ [l]))))]) := by
  have := step_append_give (P := P) (n := n) (nid := nid) (d := d) (T := T) (ty := ty) (pos := pos) (aft := aft) (g := g) h hv (by simp; omega) hd
  rwa [show LL L ++ [.sl true 1 (ints l)] = LL (L ++ [l]) by simp [LL]] at this
end
class BoolTy (P : Program) (T : TypeId) : Prop where
  out : P.underlying T = some .bool
theorem run_equal_bool {T : TypeId} [h : BoolTy P T] (a b : Bool) (w : World) : (Op.equal T (.bool a) (.bool b)).run P w = .ok (a == b) w := run_equalIn_bool w 9999 T a b h.out
theorem step_eql_bool {d : Nat} {T T' : TypeId} {x y : Operand} {a b : Bool} {ty pos aft g} [BoolTy P T] (hx : Lit st x (.bool a)) (hy : Lit st y (.bool b)) (hd : n d = true) : Step P n ⟨some d, .binOp .eql T x y T', ty, pos, aft, g⟩ nid st (rdOf x ++ rdOf y) [(d, .c (.lit (.bool (decide (a = b)))))] :=
  step_bin hx hy rfl (fun w => by simp [eqGuard_bool, binOp, run_equal_bool]; rfl) hd
theorem step_neq_bool {d : Nat} {T T' : TypeId} {x y : Operand} {a b : Bool} {ty pos aft g} [BoolTy P T] (hx : Lit st x (.bool a)) (hy : Lit st y (.bool b)) (hd : n d = true) : Step P n ⟨some d, .binOp .neq T x y T', ty, pos, aft, g⟩ nid st (rdOf x ++ rdOf y) [(d, .c (.lit (.bool (decide (a ≠ b)))))] :=
  step_bin hx hy rfl (fun w => by simp [eqGuard_bool, binOp, run_equal_bool, bne]; rfl) hd
theorem flat_ints (l : List Int) : (l.map fun x => [D.lit (.int .i64 x)]).flatten = ints l := by
  induction l with
  | nil => rfl
  | cons a l ih => rw [List.map_cons, List.flatten_cons, ih]; rfl
theorem ty_ints {t e ds} (hu : P.underlying t = some (.slice e)) (he : P.underlying e = some (.int .i64)) (hc : P.cellsOf e = 1) (h : Ty P t ds) :
    ∃ (l : List Int), ds = [.sl false 1 (ints l)] ∧ l.length ≤ maxLen ∧ (∀ x ∈ l, -9223372036854775808 ≤ x ∧ x ≤ 9223372036854775807) := by
  obtain ⟨parts, ee, h3, h4⟩ := ty_slice hu h
  subst ee
  obtain ⟨l, rfl, hl⟩ := tyL_map (fun x : Int => [D.lit (.int .i64 x)]) (fun x => -9223372036854775808 ≤ x ∧ x ≤ 9223372036854775807) h3 (fun p hp => by
    obtain ⟨n, e, hn⟩ := ty_int he hp
    exact ⟨n, e, wf_i64 hn⟩)
  rw [hc, flat_ints]
  exact ⟨l, rfl, by simpa using h4, hl⟩
theorem sees_agg {t ts fs as} (hu : P.underlying t = some (.struct fs)) (h : Sees P (t :: ts) as) : ∃ ds as', as = .sh (.agg ds) :: as' ∧ TyF P (fs.toList.map (·.type)) ds ∧ Sees P ts as' := by
  cases h with
  | one h1 => exact absurd hu (h1 _)
  | agg h1 h2 h3 => rw [hu] at h1; cases h1; exact ⟨_, _, rfl, ty_struct hu h2, h3⟩
end
end Go.Pv
namespace Go.Proofs.Ytakecbnclmjloaa
set_option linter.unusedVariables false
set_option linter.unusedSimpArgs false
def Adj (E : List (List Int)) (x y : Int) : Prop := [x, y] ∈ E ∨ [y, x] ∈ E
theorem Adj.symm {E : List (List Int)} {x y : Int} (h : Adj E x y) : Adj E y x := Or.symm h
def NB (E : List (List Int)) : List Int → Prop
  | x :: y :: z :: l => Adj E x y ∧ x ≠ z ∧ NB E (y :: z :: l)
  | [x, y] => Adj E x y
  | _ => True
theorem NB.tail {E : List (List Int)} : ∀ {x : Int} {l : List Int}, NB E (x :: l) → NB E l
  | _, [], _ => trivial
  | _, [_], _ => trivial
  | _, _ :: _ :: _, h => h.2.2
theorem NB.adj {E : List (List Int)} : ∀ {x y : Int} {l : List Int}, NB E (x :: y :: l) → Adj E x y
  | _, _, [], h => h
  | _, _, _ :: _, h => h.1
theorem NB.cons {E : List (List Int)} {x y : Int} {l : List Int} (h : NB E (y :: l)) (ha : Adj E x y) (hx : ∀ z l', l = z :: l' → x ≠ z) : NB E (x :: y :: l) := by
  cases l with
  | nil => exact ha
  | cons z l => exact ⟨ha, hx z l rfl, h⟩
theorem NB.mono {E E' : List (List Int)} (hE : ∀ e ∈ E, e ∈ E') : ∀ {l : List Int}, NB E l → NB E' l
  | [], _ => trivial
  | [_], _ => trivial
  | [_, _], h => h.imp (hE _) (hE _)
  | _ :: _ :: _ :: _, h => ⟨h.1.imp (hE _) (hE _), h.2.1, NB.mono hE h.2.2⟩
theorem NB.join {E : List (List Int)} : ∀ (p : List Int) {x : Int} {q : List Int}, NB E (p ++ [x]) → NB E (x :: q) → (∀ p' y z q', p = p' ++ [y] → q = z :: q' → y ≠ z) → NB E (p ++ x :: q)
  | [], x, q, _, h2, _ => h2
  | [y], x, q, h1, h2, h3 => NB.cons h2 h1 (fun z l' e => h3 [] y z l' rfl e)
  | y :: y2 :: p, x, q, h1, h2, h3 => by
    have ih := NB.join (y2 :: p) (NB.tail h1) h2 (fun p' a b q' e1 e2 => h3 (y :: p') a b q' (by rw [e1]; rfl) e2)
    refine NB.cons ih (NB.adj h1) fun z l' e => ?_
    cases p with
    | nil =>
      obtain ⟨rfl, rfl⟩ := List.cons.inj e
      exact h1.2.1
    | cons a p =>
      obtain ⟨rfl, rfl⟩ := List.cons.inj e
      exact h1.2.1
theorem NB.snoc {E : List (List Int)} {p : List Int} {x y : Int} (h : NB E (p ++ [x])) (ha : Adj E x y) (hy : ∀ p' z, p = p' ++ [z] → z ≠ y) : NB E (p ++ [x, y]) :=
  NB.join p h (show NB E [x, y] from ha) (fun p' a b q' e1 e2 => by
    obtain ⟨rfl, rfl⟩ := List.cons.inj e2
    exact hy p' a e1)
theorem NB.reverse {E : List (List Int)} : ∀ {l : List Int}, NB E l → NB E l.reverse
  | [], _ => trivial
  | [_], _ => trivial
  | [x, y], h => Or.symm h
  | x :: y :: z :: l, h => by
    have ih := NB.reverse h.2.2
    rw [List.reverse_cons, List.reverse_cons, List.append_assoc]
    rw [List.reverse_cons] at ih
    refine NB.snoc ih h.1.symm fun p' a e => ?_
    rw [List.reverse_cons] at e
    obtain ⟨_, e⟩ := List.append_inj' e rfl
    obtain ⟨rfl⟩ := List.cons.inj e
    exact fun e => h.2.1 e.symm
structure Sep (E : List (List Int)) (lab : Int → Int) : Prop where
  same : ∀ x y, Adj E x y → lab x = lab y
end Go.Proofs.Ytakecbnclmjloaa
namespace Go.Proofs.Ytakecbnclmjloaa
set_option linter.unusedVariables false
set_option linter.unusedSimpArgs false
def lexC : List Int → List Int → Int
  | [], [] => 0
  | [], _ :: _ => -1
  | _ :: _, [] => 1
  | x :: a, y :: b => if x < y then -1 else if y < x then 1 else lexC a b
def iota (n : Nat) : List Int := (List.range n).map fun i : Nat => (i : Int)
def ea (E : List (List Int)) (j : Nat) : Int := (E.getD j []).getD 0 0
def eb (E : List (List Int)) (j : Nat) : Int := (E.getD j []).getD 1 0
def mrg (p q : Int) (L : List Int) : List Int := L.map fun x => if x = q then p else x
def labI (n : Nat) (E : List (List Int)) : Nat → List Int
  | 0 => iota n
  | j + 1 => mrg (min ((labI n E j).getD (ea E j).toNat 0) ((labI n E j).getD (eb E j).toNat 0)) (max ((labI n E j).getD (ea E j).toNat 0) ((labI n E j).getD (eb E j).toNat 0)) (labI n E j)
def GoodAt (n : Nat) (E : List (List Int)) (j : Nat) : Prop := (E.getD j []).length = 2 ∧ (0 ≤ ea E j ∧ ea E j < eb E j ∧ eb E j < n) ∧ (0 < j → lexC (E.getD (j - 1) []) (E.getD j []) < 0)
instance (n : Nat) (E : List (List Int)) (j : Nat) : Decidable (GoodAt n E j) := by unfold GoodAt; infer_instance
def GoodE (n : Nat) (E : List (List Int)) : Prop := ∀ j, j < E.length → GoodAt n E j
instance (n : Nat) (E : List (List Int)) : Decidable (GoodE n E) := by unfold GoodE; infer_instance
def Joins (n : Nat) (E : List (List Int)) (j : Nat) : Prop := (labI n E j).getD (ea E j).toNat 0 ≠ (labI n E j).getD (eb E j).toNat 0
instance (n : Nat) (E : List (List Int)) (j : Nat) : Decidable (Joins n E j) := by unfold Joins; infer_instance
def Acy (n : Nat) (E : List (List Int)) : Prop := ∀ j, j < E.length → Joins n E j
instance (n : Nat) (E : List (List Int)) : Decidable (Acy n E) := by unfold Acy; infer_instance
def IsGr (w : List Int) (E : List (List Int)) : Prop := (1 ≤ w.length ∧ w.length ≤ 40) ∧ (∀ i, i < w.length → -1000 ≤ w.getD i 0 ∧ w.getD i 0 ≤ 1000) ∧ GoodE w.length E ∧ Acy w.length E
instance decIsGr (w : List Int) (E : List (List Int)) : Decidable (IsGr w E) := by unfold IsGr; infer_instance
end Go.Proofs.Ytakecbnclmjloaa
namespace Go.Pv
set_option linter.unusedVariables false
set_option linter.unusedSimpArgs false
open Go.RowKit
section
variable {P : Program} {n : NN} {st : Nat → AV} {nx nid : Nat} {dr : Bool} {ops l : List Oper} {pre : List (List Nat × List Nat)} {Q : (Nat → AV) → Nat → Prop}
def RunU (dr : Bool) (P : Program) (n : NN) (ops l : List Oper) (st : Nat → AV) (nx : Nat) (pre : List (List Nat × List Nat)) (Q : (Nat → AV) → Nat → Prop) : Prop :=
  if dr = true then RunD P n ops l st nx pre Q else RunL P n ops.toArray l st nx Q
theorem RunL.more {ops : Array Oper} (h : RunL P n ops l st (nx + 1) Q) : RunL P n ops l st nx Q :=
  fun f a w Q' hn hr hQ => h f a w Q' hn (hr.weaken fun i hi => by omega) hQ
theorem RunU.nilL (h : Q st nx) : RunU false P n ops [] st nx pre Q := RunL.nil h
theorem RunU.nilD (hp : pairsOk ops pre.reverse = true) (h : Q st nx) : RunU true P n ops [] st nx pre Q := RunD.nil hp h
theorem RunU.cons {d op ty pos aft rd up} (hs : Step P n ⟨d, op, ty, pos, aft, none⟩ nx st rd up) (h : RunU dr P n ops l (puts st up) (nx + 1) ((rdE rd, fpE (up.map Prod.fst)) :: pre) Q) : RunU dr P n ops (⟨d, op, ty, pos, aft, none⟩ :: l) st nx pre Q := by
  cases dr
  · exact RunL.cons hs h
  · exact RunD.cons hs h
theorem RunU.consW {d op ty pos aft wk rd up} (hs : StepW P n ⟨d, op, ty, pos, aft, none⟩ nx st wk rd up) (h : RunU dr P n ops l (puts st up) (nx + 1) ((wkE wk ++ rdE rd, fpE (up.map Prod.fst)) :: pre) Q) : RunU dr P n ops (⟨d, op, ty, pos, aft, none⟩ :: l) st nx pre Q := by
  cases dr
  · exact RunL.cons (rd := rd ++ wk) (fun X st' h1 hX => hs X st' (fun s h => h1 s (List.mem_append_left _ h)) (fun s h => by rw [h1 s (List.mem_append_right _ h)]) hX) h
  · exact RunD.consW hs h
theorem RunU.consK {d op ty pos aft rd up0 x v up} (hs : Step P n ⟨d, op, ty, pos, aft, none⟩ nx st rd up0) (he : up0 = (x, v) :: up) (hx : rd.contains x = true) (hv : hdr v = hdr (st x))
    (h : RunU dr P n ops l (puts st ((x, v) :: up)) (nx + 1) ((rdE rd, (2 * x) :: fpE (up.map Prod.fst)) :: pre) Q) : RunU dr P n ops (⟨d, op, ty, pos, aft, none⟩ :: l) st nx pre Q := by
  subst he
  cases dr
  · exact RunL.cons hs h
  · exact RunD.consK hs hx hv h
theorem RunU.doit {d op ty pos aft j b t rd up} (hd : (ops[j]?).bind (·.dst) = some t) (ht : st t = .c (.lit (.bool b))) (hs : Step P n ⟨d, op, ty, pos, aft, some (j, b)⟩ nx st rd up)
    (h : RunU dr P n ops l (puts st up) (nx + 1) ((rdE (t :: rd), fpE (up.map Prod.fst)) :: pre) Q) : RunU dr P n ops (⟨d, op, ty, pos, aft, some (j, b)⟩ :: l) st nx pre Q := by
  cases dr
  · exact RunL.doit (by simpa using hd) ht hs h
  · exact RunD.doit hd ht hs h
theorem RunU.pass {d op ty pos aft j b b' t} (hd : (ops[j]?).bind (·.dst) = some t) (ht : st t = .c (.lit (.bool b))) (hb : b = !b') (hdn : n d = true)
    (h : RunU dr P n ops l (put st d (.tup [])) (nx + 1) ((rdE [t], fpE [d]) :: pre) Q) : RunU dr P n ops (⟨some d, op, ty, pos, aft, some (j, b')⟩ :: l) st nx pre Q := by
  cases dr
  · exact RunL.pass (by simpa using hd) ht hb hdn (RunL.more h)
  · exact RunD.pass hd ht hb hdn h
theorem RunU.pass_undef {d op ty pos aft j b' t} (hd : (ops[j]?).bind (·.dst) = some t) (ht : st t = .tup []) (hdn : n d = true)
    (h : RunU dr P n ops l (put st d (.tup [])) (nx + 1) ((rdE [t], fpE [d]) :: pre) Q) : RunU dr P n ops (⟨some d, op, ty, pos, aft, some (j, b')⟩ :: l) st nx pre Q := by
  cases dr
  · exact RunL.pass_undef (by simpa using hd) ht hdn (RunL.more h)
  · exact RunD.pass_undef hd ht hdn h
theorem RunU.guard {d op ty pos aft j b' t} {b : Bool} (hd : (ops[j]?).bind (·.dst) = some t) (ht : st t = .c (.lit (.bool b)))
    (h1 : b = true → RunU dr P n ops (⟨d, op, ty, pos, aft, some (j, b')⟩ :: l) (put st t (.c (.lit (.bool true)))) nx pre Q)
    (h2 : b = false → RunU dr P n ops (⟨d, op, ty, pos, aft, some (j, b')⟩ :: l) (put st t (.c (.lit (.bool false)))) nx pre Q) : RunU dr P n ops (⟨d, op, ty, pos, aft, some (j, b')⟩ :: l) st nx pre Q := by
  have _ := hd
  cases b with
  | true => have := h1 rfl; rwa [put_eq_self ht] at this
  | false => have := h2 rfl; rwa [put_eq_self ht] at this
theorem RunU.guard_dec {d op ty pos aft j b' t} {c : Prop} {hc : Decidable c} (hd : (ops[j]?).bind (·.dst) = some t) (ht : st t = .c (.lit (.bool (@decide c hc))))
    (h1 : c → RunU dr P n ops (⟨d, op, ty, pos, aft, some (j, b')⟩ :: l) (put st t (.c (.lit (.bool true)))) nx pre Q)
    (h2 : ¬ c → RunU dr P n ops (⟨d, op, ty, pos, aft, some (j, b')⟩ :: l) (put st t (.c (.lit (.bool false)))) nx pre Q) : RunU dr P n ops (⟨d, op, ty, pos, aft, some (j, b')⟩ :: l) st nx pre Q :=
  RunU.guard hd ht (fun h => h1 (of_decide_eq_true h)) (fun h => h2 (of_decide_eq_false h))
theorem RunU.guard_not {d op ty pos aft j b' t} {c : Prop} {hc : Decidable c} (hd : (ops[j]?).bind (·.dst) = some t) (ht : st t = .c (.lit (.bool (!@decide c hc))))
    (h1 : ¬ c → RunU dr P n ops (⟨d, op, ty, pos, aft, some (j, b')⟩ :: l) (put st t (.c (.lit (.bool true)))) nx pre Q)
    (h2 : c → RunU dr P n ops (⟨d, op, ty, pos, aft, some (j, b')⟩ :: l) (put st t (.c (.lit (.bool false)))) nx pre Q) : RunU dr P n ops (⟨d, op, ty, pos, aft, some (j, b')⟩ :: l) st nx pre Q :=
  RunU.guard hd ht (fun h => h1 (of_decide_eq_false (by simpa using h))) (fun h => h2 (of_decide_eq_true (by simpa using h)))
theorem WpA.regionU {Q : Exit → (Nat → AV) → Nat → Prop} {id : Nat} (h : RunU false P n l l st nx [] fun s k => Q .normal s k) : WpA P n (.region id l.toArray false) st nx Q := WpA.region h
theorem WpA.drawU [hm : Mixed P] {Q : Exit → (Nat → AV) → Nat → Prop} {id : Nat} (h : RunU true P n l l st nx [] fun s k => Q .normal s k) : WpA P n (.region id l.toArray true) st nx Q := WpA.draw h
end
end Go.Pv
namespace Go.Pv
set_option linter.unusedVariables false
set_option linter.unusedSimpArgs false
open Go.RowKit
section
variable {P : Program} {n : NN} {nid : Nat} {st : Nat → AV} {f : Fr} {X : Nat → Prop} {a : Act} {w : World} {ρ : Nat → Rho} {L : Nat → List Nat} {M : List Nat}
theorem WpA.loop_slots2 {c : Code} {nx : Nat} {Q : Exit → (Nat → AV) → Nat → Prop} (slots : Nat → Nat → List (Nat × AV)) (C : Nat → Prop) (μ : Nat → Nat) (i0 id0 : Nat) (hC : C i0) (h0 : Has st (slots i0 id0))
    (round : ∀ i id s k, C i → WpA P n c (puts s (slots i id)) k (Then (fun s' _ => ∃ i', C i' ∧ (∃ id', Has s' (slots i' id')) ∧ μ i' < μ i) Q)) : WpA P n (.loop c) st nx Q :=
  WpA.loop_slots (ι := Nat × Nat) (fun p => slots p.1 p.2) (fun p => C p.1) (fun p => μ p.1) (i0, id0) hC h0 fun p s k hp =>
    (round p.1 p.2 s k hp).mono fun e s' k' q => by
      cases e with
      | normal => obtain ⟨i', q1, ⟨id', q2⟩, q3⟩ := q; exact ⟨(i', id'), q1, q2, q3⟩
      | _ => exact q
inductive IoAt (st : Nat → AV) : Operand → Nat → Nat → List Nat → D → D → List Nat → Prop
  | sl {t id sz cs} : st t = .own id (.sl true sz cs) → IoAt st (.tmp t) t id [] (.sl true sz cs) (.sl true sz cs) [t]
  | pt {t id cs} : st t = .own id (.pt true cs) → IoAt st (.tmp t) t id [] (.pt true cs) (.pt true cs) [t]
  | als {t x id path dd sz cs} : st t = .als x id path → st x = .own id dd → dd.nav path = some (.sl true sz cs) → IoAt st (.tmp t) x id path dd (.sl true sz cs) [t, x]
  | ptr {t x id cs} : st t = .ptr x id [] 0 → st x = .own id (.pt true cs) → IoAt st (.tmp t) x id [] (.pt true cs) (.pt true cs) [t, x]
theorem IoAt.agree {st' : Nat → AV} {x : Operand} {xr id : Nat} {path rd : List Nat} {dd d : D} (h : IoAt st x xr id path dd d rd) (hs : ∀ s ∈ rd, st' s = st s) : IoAt st' x xr id path dd d rd := by
  cases h with
  | sl h => exact .sl ((hs _ (by simp)).trans h)
  | pt h => exact .pt ((hs _ (by simp)).trans h)
  | als h1 h2 h3 => exact .als ((hs _ (by simp)).trans h1) ((hs _ (by simp)).trans h2) h3
  | ptr h1 h2 => exact .ptr ((hs _ (by simp)).trans h1) ((hs _ (by simp)).trans h2)
theorem IoAt.own {x : Operand} {xr id : Nat} {path rd : List Nat} {dd d : D} (h : IoAt st x xr id path dd d rd) : st xr = .own id dd ∧ dd.nav path = some d ∧ xr ∈ rd := by
  cases h <;> exact ⟨by assumption, by first | rfl | assumption, by simp⟩
theorem named {F : Nat → Prop} {w : World} {d : D} {cs : List D} {r : Rho} {v : Value} {L1 : List Nat} (hk : d.kids = some cs) (h : RD F w d r v L1) : v = r [] := by
  cases d with
  | lit v => simp [D.kids] at hk
  | hole => simp [D.kids] at hk
  | fn g cs => simp [D.kids] at hk
  | sl own sz cs' => cases own <;> simp [D.kids] at hk; simp only [RD] at h; exact h.1
  | pt own cs' => cases own <;> simp [D.kids] at hk; simp only [RD] at h; exact h.1
theorem IoAt.kids {x : Operand} {xr id : Nat} {path rd : List Nat} {dd d : D} (h : IoAt st x xr id path dd d rd) : ∃ cs, d.kids = some cs := by
  cases h <;> exact ⟨_, rfl⟩
theorem IoAt.eval (hr : RepO f X st a w ρ L) {x : Operand} {xr id : Nat} {path rd : List Nat} {dd d : D} (h : IoAt st x xr id path dd d rd) : a.eval x = ρ id path := by
  cases h with
  | @sl _ _ sz cs h =>
    have := hr.slots xr
    rw [h] at this
    simp only [SR] at this
    exact named (cs := cs) rfl this
  | @pt _ _ cs h =>
    have := hr.slots xr
    rw [h] at this
    simp only [SR] at this
    exact named (cs := cs) rfl this
  | @als t x id path dd sz cs h1 h2 h3 =>
    have := hr.slots t
    rw [h1] at this
    simp only [SR] at this
    exact this.2
  | @ptr t _ _ cs h1 h2 =>
    have ht := hr.slots t
    rw [h1] at ht
    simp only [SR] at ht
    obtain ⟨_, b, hb, e0⟩ := ht
    have hx := hr.slots xr
    rw [h2] at hx
    simp only [SR] at hx
    simp only [RD] at hx
    obtain ⟨e1, g, us, L1, ty, e3, _⟩ := hx
    have e1 : tmp a xr = ρ id [] := e1
    rw [← e1, e3] at hb ⊢
    simp only [baseOf, Option.some.injEq] at hb
    show tmp a t = _
    rw [e0, ← hb, add_zero']
theorem lits_res {F : Nat → Prop} {w : World} : ∀ (vs : List Value) (us : List Value) (Lr : List Nat), VRs F w (vs.map fun v => .one (.lit v)) us Lr → us = vs ∧ Lr = [] ∧ ∀ v ∈ vs, v.oneCell' = true
  | [], us, Lr, h => by simp only [List.map_nil, VRs] at h; exact ⟨h.1, h.2, by simp⟩
  | v :: vs, us, Lr, h => by
    simp only [List.map_cons, VRs, VR, RD] at h
    obtain ⟨u, us', L1, L2, rfl, rfl, ⟨r, rfl, h1, rfl⟩, h2⟩ := h
    obtain ⟨rfl, rfl, h3⟩ := lits_res vs us' L2 h2
    exact ⟨rfl, rfl, by simpa using ⟨h1, h3⟩⟩
theorem nav_LL {L : List (List Int)} {j : Nat} (h : j < L.length) : (D.sl true 1 (LL L)).nav ([] ++ [j]) = some (.sl true 1 (ints (L.getD j []))) := by
  simp only [List.nil_append, D.nav, D.kids, LL, LL_get h]
theorem idx_lit (k : Nat) : (OfNat.ofNat k : Int) = ((OfNat.ofNat k : Nat) : Int) := rfl
theorem nav_snoc : ∀ (path : List Nat) (dd d1 : D) (cs : List D) (c : D) (j : Nat), dd.nav path = some d1 → d1.kids = some cs → cs[j]? = some c → dd.nav (path ++ [j]) = some c
  | [], dd, d1, cs, c, j, h, hk, hc => by
    simp only [D.nav, Option.some.injEq] at h
    subst h
    simp only [List.nil_append, D.nav, hk, hc]
  | k :: path, dd, d1, cs, c, j, h, hk, hc => by
    simp only [D.nav] at h
    cases hk1 : dd.kids with
    | none => simp [hk1] at h
    | some cs1 =>
      simp only [hk1] at h
      cases hc1 : cs1[k]? with
      | none => simp [hc1] at h
      | some c1 =>
        simp only [hc1] at h
        simp only [List.cons_append, D.nav, hk1, hc1]
        exact nav_snoc path c1 d1 cs c j h hk hc
theorem nav_LL_at {path : List Nat} {dd : D} {L : List (List Int)} {j : Nat} (h : dd.nav path = some (.sl true 1 (LL L))) (hj : j < L.length) : dd.nav (path ++ [j]) = some (.sl true 1 (ints (L.getD j []))) :=
  nav_snoc path dd _ _ _ j h rfl (by simp only [LL, LL_get hj])
end
end Go.Pv
