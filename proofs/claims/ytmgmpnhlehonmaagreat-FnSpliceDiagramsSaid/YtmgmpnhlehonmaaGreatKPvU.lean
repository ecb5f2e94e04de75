/- Calls that write into their first argument and hand it back; whether a slice is nil. No condition. -/
import Derived.Test.YtmgmpnhlehonmaaGreatKPvM
import Derived.Laws.Cover3
set_option linter.unusedVariables false
set_option linter.unusedSimpArgs false
namespace Go.Pv
open Go.RowKit
section
variable {P : Program} {n : NN} {st : Nat → AV} {nx nid : Nat}
theorem Then.next {K : (Nat → AV) → Nat → Prop} {Q : Exit → (Nat → AV) → Nat → Prop} {s : Nat → AV} {k : Nat} (h : K s k) : Then K Q .normal s k := h
theorem InBlock.next {Q : Exit → (Nat → AV) → Nat → Prop} {id : Nat} {s : Nat → AV} {k : Nat} (h : Q .normal s k) : InBlock id Q .normal s k := h
abbrev ints (l : List Int) : List D := l.map fun x => D.lit (.int .i64 x)
theorem map_get {α : Type} {g : α → D} {L : List α} {i : Nat} (d0 : α) (h : i < L.length) : (L.map g)[i]? = some (g (L.getD i d0)) := by
 simp [List.getD, h]
theorem ints_get {l : List Int} {i : Nat} (h : i < l.length) : (l.map fun x => D.lit (.int .i64 x))[i]? = some (.lit (.int .i64 (l.getD i 0))) := map_get 0 h
theorem eI_ (l : List Int) : D.erases (ints l) = ints l := by rw [D.erases_eq]; simp [D.erase]
theorem solids_ints (l : List Int) : D.solids (ints l) = true := by
 unfold ints
 induction l with
 | nil => rfl
 | cons a l ih => simp only [List.map_cons, D.solids, D.solid, ih, Bool.and_self]
theorem plain_ints (l : List Int) : ∀ d ∈ ints l, d.plain = true := by simp [D.plain]
theorem step_len_map {α : Type} {g : α → D} {L : List α} {d : Nat} {x : Operand} {T : TypeId} {sz' : Nat} {rd : List Nat} {ty pos aft gd} [SliceTy P T sz'] (hv : View st x rd 1 (L.map g)) (hd : n d = true) :
  Step P n ⟨some d, .call ⟨.builtin .len, #[x], #[T]⟩, ty, pos, aft, gd⟩ nid st rd [(d, .c (.lit (.int .i64 (L.length : Int))))] := by
 have := step_len (P := P) (n := n) (nid := nid) (ty := ty) (pos := pos) (aft := aft) (g := gd) (d := d) (T := T) (sz' := sz') hv L.length (by simp) (by decide) hd
 exact this
theorem step_store_ints {t x id off : Nat} {path : List Nat} {xv : Operand} {v : Int} {T : TypeId} {dd d1 : D} {l : List Int} {ty pos aft g} [OneTy P T] (h : st t = .ptr x id path off) (hx : st x = .own id dd) (hn' : dd.nav path = some d1) (hk : d1.kids = some (ints l))
  (hv : Lit st xv (.int .i64 v)) (hlt : off < l.length) :
  Step P n ⟨none, .store T (.tmp t) xv, ty, pos, aft, g⟩ nid st (t :: x :: rdOf xv) [(x, .own id (dd.put path (d1.withKids (ints (l.set off v)))))] := by
 have := step_store_lit (P := P) (n := n) (nid := nid) (T := T) (ty := ty) (pos := pos) (aft := aft) (g := g) h hx hn' hk (ints_get hlt) hv rfl
 rwa [show (ints l).set off (.lit (.int .i64 v)) = ints (l.set off v) by simp [ints, List.map_set]] at this
theorem replicate_ints (m : Nat) : List.replicate m (D.lit (.int .i64 0)) = ints (List.replicate m 0) := by simp [ints]
theorem step_make_ints {d : Nat} {T : TypeId} {x y : Operand} {k k' : IntKind} {i i' : Int} {ty pos aft g} [hT : MakeTy P T (.lit (.int .i64 0))] (hx : Lit st x (.int k i)) (hy : Lit st y (.int k' i')) (he : i' = i) (h0 : 0 ≤ i) (hm : i ≤ 1099511627776) (hd : n d = true) :
  Step P n ⟨some d, .makeSlice T x y, ty, pos, aft, g⟩ nid st (rdOf x ++ rdOf y) [(d, .own nid (.sl true 1 (ints (List.replicate i.toNat 0))))] := by
 rw [← replicate_ints]
 exact step_make hx hy (Int.toNat_of_nonneg h0).symm (by rw [he]; exact (Int.toNat_of_nonneg h0).symm) (by omega) hd
theorem own_ints {id sz : Nat} {l l' : List Int} (h : l = l') : AV.own id (.sl true sz (ints l)) = AV.own id (.sl true sz (ints l')) := by rw [h]
theorem c_ints {o : Bool} {sz : Nat} {l l' : List Int} (h : l = l') : AV.c (.sl o sz (ints l)) = AV.c (.sl o sz (ints l')) := by rw [h]
theorem fill_step : ∀ (l : List Int) (j : Nat), j < l.length → (l.take j ++ List.replicate (l.length - j) 0).set j (l.getD j 0) = l.take (j + 1) ++ List.replicate (l.length - (j + 1)) 0
 | [], _, h => by simp at h
 | a :: l, 0, _ => by simp [List.replicate_succ]
 | a :: l, j + 1, h => by
  have := fill_step l j (by simpa using h)
  simpa using this
theorem list_ext : ∀ {a b : List Int}, a.length = b.length → (∀ i, i < a.length → a.getD i 0 = b.getD i 0) → a = b
 | [], [], _, _ => rfl
 | [], _ :: _, h, _ => by simp at h
 | _ :: _, [], h, _ => by simp at h
 | x :: a, y :: b, h, e => by
  have h0 : x = y := by simpa using e 0 (by simp)
  rw [h0, list_ext (a := a) (b := b) (by simpa using h) fun i hi => by simpa using e (i + 1) (by simpa using hi)]
abbrev LL (L : List (List Int)) : List D := L.map fun l => D.sl true 1 (ints l)
abbrev LLs (L : List (List Int)) : List D := L.map fun l => D.sl false 1 (ints l)
theorem eN_ (L : List (List Int)) : D.erases (LL L) = LLs L := by
 rw [D.erases_eq, List.map_map]
 refine List.map_congr_left fun l _ => ?_
 simp only [Function.comp_apply, D.erase, eI_]
theorem eM_ (L : List (List Int)) : D.erases (LLs L) = LLs L := by
 rw [D.erases_eq, List.map_map]
 refine List.map_congr_left fun l _ => ?_
 simp only [Function.comp_apply, D.erase, eI_]
theorem solids_LL (L : List (List Int)) : D.solids (LL L) = true := by
 unfold LL
 induction L with
 | nil => rfl
 | cons a l ih => simp only [List.map_cons, D.solids, D.solid, solids_ints, ih, Bool.and_self]
theorem LL_get {L : List (List Int)} {i : Nat} (h : i < L.length) : (L.map fun l => D.sl true 1 (ints l))[i]? = some (.sl true 1 (ints (L.getD i []))) := map_get [] h
theorem LLs_get {L : List (List Int)} {i : Nat} (h : i < L.length) : (L.map fun l => D.sl false 1 (ints l))[i]? = some (.sl false 1 (ints (L.getD i []))) := map_get [] h
theorem own_LL {id sz : Nat} {l l' : List (List Int)} (h : l = l') : AV.own id (.sl true sz (LL l)) = AV.own id (.sl true sz (LL l')) := by rw [h]
section
variable {d : Nat} {s x : Operand} {T : TypeId} {rd rd2 : List Nat} {up up2 : List (Nat × AV)} {ty : TypeId} {pos : String} {aft : Array Edge} {g : Option (Nat × Bool)}
theorem step_append_int1 {l : List Int} {v : Int} [hT : SliceTy P T 1] (h : Give st s rd (.sl true 1 (ints l)) up) (hv : View (puts st up) x rd2 1 [.lit (.int .i64 v)]) (hb : l.length ≤ 1099511627000) (hd : n d = true) :
  Step P n ⟨some d, .call ⟨.builtin .append, #[s, x], #[T, T]⟩, ty, pos, aft, g⟩ nid st (rd ++ rd2) (up ++ [(d, .own nid (.sl true 1 (ints (l ++ [v]))))]) := by
 have := step_append_view (P := P) (n := n) (nid := nid) (d := d) (T := T) (ty := ty) (pos := pos) (aft := aft) (g := g) h hv (by simp [D.plain]) (by simp; omega) hd
 rwa [show ints l ++ [.lit (.int .i64 v)] = ints (l ++ [v]) by simp [ints]] at this
theorem step_append_ints_sh {t : Nat} {l m : List Int} [hT : SliceTy P T 1] (h : Give st s rd (.sl true 1 (ints l)) up) (hv : puts st up t = .c (.sl false 1 (ints m))) (hb : l.length + m.length ≤ 1099511627776) (hd : n d = true) :
  Step P n ⟨some d, .call ⟨.builtin .append, #[s, .tmp t], #[T, T]⟩, ty, pos, aft, g⟩ nid st (rd ++ [t]) (up ++ [(d, .own nid (.sl true 1 (ints (l ++ m))))]) := by
 have := step_append_sh (P := P) (n := n) (nid := nid) (d := d) (T := T) (ty := ty) (pos := pos) (aft := aft) (g := g) h hv (by simpa using hb) hd
 rwa [show ints l ++ ints m = ints (l ++ m) by simp [ints]] at this
theorem step_append_sh0 {t : Nat} {sz : Nat} {ds : List D} [hT : SliceTy P T sz] (h : Give st s rd (.sl true sz []) up) (hv : puts st up t = .c (.sl false sz ds)) (hb : ds.length ≤ 1099511627776) (hd : n d = true) :
  Step P n ⟨some d, .call ⟨.builtin .append, #[s, .tmp t], #[T, T]⟩, ty, pos, aft, g⟩ nid st (rd ++ [t]) (up ++ [(d, .own nid (.sl true sz ds))]) := by
 have := step_append_sh (P := P) (n := n) (nid := nid) (d := d) (T := T) (ty := ty) (pos := pos) (aft := aft) (g := g) h hv (by simpa using hb) hd
 simpa only [List.nil_append] using this
theorem step_append_give0 {sz : Nat} {ds : List D} [hT : SliceTy P T sz] (h : Give st s rd (.sl true sz []) up) (hv : Give (puts st up) x rd2 (.sl true sz ds) up2) (hb : ds.length ≤ 1099511627776) (hd : n d = true) :
  Step P n ⟨some d, .call ⟨.builtin .append, #[s, x], #[T, T]⟩, ty, pos, aft, g⟩ nid st (rd ++ rd2) ((up ++ up2) ++ [(d, .own nid (.sl true sz ds))]) := by
 have := step_append_give (P := P) (n := n) (nid := nid) (d := d) (T := T) (ty := ty) (pos := pos) (aft := aft) (g := g) h hv (by simpa using hb) hd
 simpa only [List.nil_append] using this
theorem step_append_ints_view {l m : List Int} [hT : SliceTy P T 1] (h : Give st s rd (.sl true 1 (ints l)) up) (hv : View (puts st up) x rd2 1 (ints m)) (hb : l.length + m.length ≤ 1099511627776) (hd : n d = true) :
  Step P n ⟨some d, .call ⟨.builtin .append, #[s, x], #[T, T]⟩, ty, pos, aft, g⟩ nid st (rd ++ rd2) (up ++ [(d, .own nid (.sl true 1 (ints (l ++ m))))]) := by
 have := step_append_view (P := P) (n := n) (nid := nid) (d := d) (T := T) (ty := ty) (pos := pos) (aft := aft) (g := g) h hv (plain_ints m) (by simpa using hb) hd
 rwa [show ints l ++ ints m = ints (l ++ m) by simp [ints]] at this
theorem step_append_LL1 {L : List (List Int)} {l : List Int} [hT : SliceTy P T 1] (h : Give st s rd (.sl true 1 (LL L)) up) (hv : Give (puts st up) x rd2 (.sl true 1 [.sl true 1 (ints l)]) up2) (hb : L.length ≤ 1099511627000) (hd : n d = true) :
  Step P n ⟨some d, .call ⟨.builtin .append, #[s, x], #[T, T]⟩, ty, pos, aft, g⟩ nid st (rd ++ rd2) ((up ++ up2) ++ [(d, .own nid (.sl true 1 (LL (L ++ [l]))))]) := by
 have := step_append_give (P := P) (n := n) (nid := nid) (d := d) (T := T) (ty := ty) (pos := pos) (aft := aft) (g := g) h hv (by simp; omega) hd
 rwa [show LL L ++ [.sl true 1 (ints l)] = LL (L ++ [l]) by simp [LL]] at this
end
class BoolTy (P : Program) (T : TypeId) : Prop where
 out : P.underlying T = some .bool
theorem run_equal_bool {T : TypeId} [h : BoolTy P T] (a b : Bool) (w : World) : (Op.equal T (.bool a) (.bool b)).run P w = .ok (a == b) w := run_equalIn_bool w 9999 T a b h.out
theorem step_eql_bool {d : Nat} {T T' : TypeId} {x y : Operand} {a b : Bool} {ty pos aft g} [BoolTy P T] (hx : Lit st x (.bool a)) (hy : Lit st y (.bool b)) (hd : n d = true) : Step P n ⟨some d, .binOp .eql T x y T', ty, pos, aft, g⟩ nid st (rdOf x ++ rdOf y) [(d, .c (.lit (.bool (decide (a = b)))))] :=
 step_bin hx hy rfl (fun w => by simp [eqGuard_bool, binOp, run_equal_bool]; rfl) hd
theorem step_neq_bool {d : Nat} {T T' : TypeId} {x y : Operand} {a b : Bool} {ty pos aft g} [BoolTy P T] (hx : Lit st x (.bool a)) (hy : Lit st y (.bool b)) (hd : n d = true) : Step P n ⟨some d, .binOp .neq T x y T', ty, pos, aft, g⟩ nid st (rdOf x ++ rdOf y) [(d, .c (.lit (.bool (decide (a ≠ b)))))] :=
 step_bin hx hy rfl (fun w => by simp [eqGuard_bool, binOp, run_equal_bool, bne]; rfl) hd
end
end Go.Pv
namespace Go.Proofs.YtmgmpnhlehonmaaGreat
def Adj (E : List (List Int)) (x y : Int) : Prop := [x, y] ∈ E ∨ [y, x] ∈ E
theorem Adj.symm {E : List (List Int)} {x y : Int} (h : Adj E x y) : Adj E y x := Or.symm h
def NB (E : List (List Int)) : List Int → Prop
 | x :: y :: z :: l => Adj E x y ∧ x ≠ z ∧ NB E (y :: z :: l)
 | [x, y] => Adj E x y
 | _ => True
theorem NB.tail {E : List (List Int)} : ∀ {x : Int} {l : List Int}, NB E (x :: l) → NB E l
 | _, [], _ => trivial
 | _, [_], _ => trivial
 | _, _ :: _ :: _, h => h.2.2
theorem NB.adj {E : List (List Int)} : ∀ {x y : Int} {l : List Int}, NB E (x :: y :: l) → Adj E x y
 | _, _, [], h => h
 | _, _, _ :: _, h => h.1
theorem NB.cons {E : List (List Int)} {x y : Int} {l : List Int} (h : NB E (y :: l)) (ha : Adj E x y) (hx : ∀ z l', l = z :: l' → x ≠ z) : NB E (x :: y :: l) := by
 cases l with
 | nil => exact ha
 | cons z l => exact ⟨ha, hx z l rfl, h⟩
theorem NB.mono {E E' : List (List Int)} (hE : ∀ e ∈ E, e ∈ E') : ∀ {l : List Int}, NB E l → NB E' l
 | [], _ => trivial
 | [_], _ => trivial
 | [_, _], h => h.imp (hE _) (hE _)
 | _ :: _ :: _ :: _, h => ⟨h.1.imp (hE _) (hE _), h.2.1, NB.mono hE h.2.2⟩
theorem NB.right {E : List (List Int)} : ∀ (p : List Int) {q : List Int}, NB E (p ++ q) → NB E q
 | [], _, h => h
 | _ :: p, q, h => NB.right p (NB.tail h)
theorem NB.left {E : List (List Int)} : ∀ (p : List Int) {q : List Int}, NB E (p ++ q) → NB E p
 | [], _, _ => trivial
 | [_], _, _ => trivial
 | [_, _], _, h => NB.adj h
 | _ :: _ :: _ :: p, q, h => ⟨h.1, h.2.1, NB.left _ (q := q) h.2.2⟩
theorem NB.join {E : List (List Int)} : ∀ (p : List Int) {x : Int} {q : List Int}, NB E (p ++ [x]) → NB E (x :: q) → (∀ p' y z q', p = p' ++ [y] → q = z :: q' → y ≠ z) → NB E (p ++ x :: q)
 | [], x, q, _, h2, _ => h2
 | [y], x, q, h1, h2, h3 => NB.cons h2 h1 (fun z l' e => h3 [] y z l' rfl e)
 | y :: y2 :: p, x, q, h1, h2, h3 => by
  have ih := NB.join (y2 :: p) (NB.tail h1) h2 (fun p' a b q' e1 e2 => h3 (y :: p') a b q' (by rw [e1]; rfl) e2)
  refine NB.cons ih (NB.adj h1) fun z l' e => ?_
  cases p with
  | nil =>
   obtain ⟨rfl, rfl⟩ := List.cons.inj e
   exact h1.2.1
  | cons a p =>
   obtain ⟨rfl, rfl⟩ := List.cons.inj e
   exact h1.2.1
theorem NB.snoc {E : List (List Int)} {p : List Int} {x y : Int} (h : NB E (p ++ [x])) (ha : Adj E x y) (hy : ∀ p' z, p = p' ++ [z] → z ≠ y) : NB E (p ++ [x, y]) :=
 NB.join p h (show NB E [x, y] from ha) (fun p' a b q' e1 e2 => by
  obtain ⟨rfl, rfl⟩ := List.cons.inj e2
  exact hy p' a e1)
theorem NB.reverse {E : List (List Int)} : ∀ {l : List Int}, NB E l → NB E l.reverse
 | [], _ => trivial
 | [_], _ => trivial
 | [x, y], h => Or.symm h
 | x :: y :: z :: l, h => by
  have ih := NB.reverse h.2.2
  rw [List.reverse_cons, List.reverse_cons, List.append_assoc]
  rw [List.reverse_cons] at ih
  refine NB.snoc ih h.1.symm fun p' a e => ?_
  rw [List.reverse_cons] at e
  obtain ⟨_, e⟩ := List.append_inj' e rfl
  obtain ⟨rfl⟩ := List.cons.inj e
  exact fun e => h.2.1 e.symm
def Forest (E : List (List Int)) : Prop := ∀ l, NB E l → l.Nodup
structure Sep (E : List (List Int)) (lab : Int → Int) : Prop where
 same : ∀ x y, Adj E x y → lab x = lab y
theorem Sep.nb {E : List (List Int)} {lab : Int → Int} (h : Sep E lab) : ∀ {l : List Int}, NB E l → ∀ x ∈ l, ∀ y ∈ l, lab x = lab y
 | [], _, x, hx, _, _ => by cases hx
 | [a], _, x, hx, y, hy => by simp at hx hy; rw [hx, hy]
 | a :: b :: l, hn, x, hx, y, hy => by
  have ih := Sep.nb h (NB.tail hn)
  have e := h.same a b (NB.adj hn)
  have key : ∀ x ∈ a :: b :: l, lab x = lab b := by
   intro x hx
   rcases List.mem_cons.1 hx with rfl | hx
   ·exact e
   ·exact ih x hx b (by simp)
  rw [key x hx, key y hy]
theorem forest_step {E : List (List Int)} {lab : Int → Int} {a b : Int} (hs : Sep E lab) (hf : Forest E) (hab : lab a ≠ lab b) : Forest (E ++ [[a, b]]) := by
 have hne : a ≠ b := fun e => hab (by rw [e])
 have key : ∀ l, NB (E ++ [[a, b]]) l → NB E l ∨ ∃ p u v q, l = p ++ u :: v :: q ∧ NB E (p ++ [u]) ∧ NB E (v :: q) ∧ ((u = a ∧ v = b) ∨ (u = b ∧ v = a)) := by
  intro l
  induction l with
  | nil => exact fun _ => .inl trivial
  | cons x l ih =>
   intro h
   cases l with
   | nil => exact .inl trivial
   | cons y l =>
    have hadj := NB.adj h
    have hold : Adj E x y ∨ ((x = a ∧ y = b) ∨ (x = b ∧ y = a)) := by
     rcases hadj with h1 | h1 <;> simp only [List.mem_append, List.mem_singleton, List.cons.injEq, and_true] at h1 <;> rcases h1 with h1 | h1
     ·exact .inl (.inl h1)
     ·exact .inr (.inl h1)
     ·exact .inl (.inr h1)
     ·exact .inr (.inr ⟨h1.2, h1.1⟩)
    have hback : ∀ z l', l = z :: l' → x ≠ z := by
     rintro z l' rfl
     exact h.2.1
    rcases ih (NB.tail h) with h1 | ⟨p, u, v, q, e, h1, h2, h3⟩
    ·rcases hold with h4 | h4
     ·exact .inl (NB.cons h1 h4 hback)
     ·exact .inr ⟨[], x, y, l, rfl, trivial, h1, h4⟩
    ·rcases hold with h4 | h4
     ·refine .inr ⟨x :: p, u, v, q, by rw [e]; rfl, ?_, h2, h3⟩
      cases p with
      | nil =>
       simp only [List.nil_append, List.cons.injEq] at e
       obtain ⟨rfl, rfl⟩ := e
       exact h4
      | cons y' p =>
       simp only [List.cons_append, List.cons.injEq] at e
       obtain ⟨rfl, rfl⟩ := e
       refine NB.cons h1 h4 fun z l' e => ?_
       cases p with
       | nil =>
        obtain ⟨rfl, rfl⟩ := List.cons.inj e
        exact hback _ _ rfl
       | cons z' p =>
        obtain ⟨rfl, rfl⟩ := List.cons.inj e
        exact hback _ _ rfl
     ·exfalso
      cases p with
      | nil =>
       simp only [List.nil_append, List.cons.injEq] at e
       obtain ⟨rfl, rfl⟩ := e
       have := hback _ _ rfl
       grind
      | cons y' p =>
       simp only [List.cons_append, List.cons.injEq] at e
       obtain ⟨rfl, e⟩ := e
       have e1 := hs.nb h1 y (by simp) u (by simp)
       have hnd := hf _ h1
       simp only [List.cons_append, List.nodup_cons, List.mem_append, List.mem_singleton, not_or] at hnd
       grind
 intro l hl
 rcases key l hl with h | ⟨p, u, v, q, rfl, h1, h2, h3⟩
 ·exact hf l h
 ·have n1 := hf _ h1
  have n2 := hf _ h2
  have e : p ++ u :: v :: q = (p ++ [u]) ++ (v :: q) := by simp
  rw [e, List.nodup_append]
  refine ⟨n1, n2, fun x hx y hy exy => ?_⟩
  subst exy
  have e1 := hs.nb h1 x hx u (by simp)
  have e2 := hs.nb h2 x hy v (by simp)
  rcases h3 with ⟨rfl, rfl⟩ | ⟨rfl, rfl⟩
  ·exact hab (e1.symm.trans e2)
  ·exact hab (e2.symm.trans e1)
theorem forest_nil : Forest [] := by
 intro l hl
 match l, hl with
 | [], _ => exact List.nodup_nil
 | [x], _ => simp
 | x :: y :: l, h => exact absurd (NB.adj h) (by simp [Adj])
theorem NB.unique {E : List (List Int)} (hf : Forest E) {r : Int} : ∀ {p q : List Int}, NB E (p ++ [r]) → NB E (q ++ [r]) → (p ++ [r]).head? = (q ++ [r]).head? → p = q
 | [], [], _, _, _ => rfl
 | [], x :: q, _, h2, he => by
  simp only [List.nil_append, List.head?_cons, List.cons_append, Option.some.injEq] at he
  subst he
  have := hf _ h2
  simp at this
 | x :: p, [], h1, _, he => by
  simp only [List.nil_append, List.head?_cons, List.cons_append, Option.some.injEq] at he
  subst he
  have := hf _ h1
  simp at this
 | x :: p, y :: q, h1, h2, he => by
  simp only [List.head?_cons, List.cons_append, Option.some.injEq] at he
  subst he
  congr 1
  refine NB.unique hf (NB.tail h1) (NB.tail h2) ?_
  obtain ⟨a, l1, e1⟩ : ∃ a l1, p ++ [r] = a :: l1 := by cases p <;> simp
  obtain ⟨b, l2, e2⟩ : ∃ b l2, q ++ [r] = b :: l2 := by cases q <;> simp
  by_cases hab : a = b
  ·rw [e1, e2, hab]; rfl
  ·exfalso
   have r1 := NB.reverse h1
   rw [List.cons_append, e1] at r1 h1
   rw [List.reverse_cons] at r1
   rw [List.cons_append, e2] at h2
   have hj := NB.join _ r1 h2 (fun p' y z q' k1 k2 => by
    rw [List.reverse_cons] at k1
    obtain ⟨_, k1⟩ := List.append_inj' k1 rfl
    obtain ⟨rfl⟩ := List.cons.inj k1
    obtain ⟨rfl, _⟩ := List.cons.inj k2
    exact hab)
   have hn := hf _ hj
   rw [List.nodup_append] at hn
   refine hn.2.2 r (by rw [List.mem_reverse, ← e1]; simp) r (by rw [← e2]; simp) rfl
def lexC : List Int → List Int → Int
 | [], [] => 0
 | [], _ :: _ => -1
 | _ :: _, [] => 1
 | x :: a, y :: b => if x < y then -1 else if y < x then 1 else lexC a b
def iota (n : Nat) : List Int := (List.range n).map fun i : Nat => (i : Int)
theorem iota_len (n : Nat) : (iota n).length = n := by simp [iota]
theorem iota_at {n i : Nat} (h : i < n) : (iota n).getD i 0 = i := by simp [iota, List.getD, h]
def ea (E : List (List Int)) (j : Nat) : Int := (E.getD j []).getD 0 0
def eb (E : List (List Int)) (j : Nat) : Int := (E.getD j []).getD 1 0
def mrg (p q : Int) (L : List Int) : List Int := L.map fun x => if x = q then p else x
theorem mrg_len (p q : Int) (L : List Int) : (mrg p q L).length = L.length := by simp [mrg]
theorem mrg_at {p q : Int} {L : List Int} {i : Nat} (h : i < L.length) : (mrg p q L).getD i 0 = if L.getD i 0 = q then p else L.getD i 0 := by
 simp [mrg, List.getD, h]
theorem mrg_same (p : Int) (L : List Int) : mrg p p L = L := by
 unfold mrg
 conv => rhs; rw [← List.map_id L]
 refine List.map_congr_left fun x _ => ?_
 split <;> simp_all
theorem mrg_rel {p q : Int} {L : List Int} {u v : Nat} (hu : u < L.length) (hv : v < L.length) : (mrg p q L).getD u 0 = (mrg p q L).getD v 0 ↔ (L.getD u 0 = L.getD v 0 ∨ ((L.getD u 0 = p ∨ L.getD u 0 = q) ∧ (L.getD v 0 = p ∨ L.getD v 0 = q))) := by
 rw [mrg_at hu, mrg_at hv]
 split <;> split <;> grind
def labS (n : Nat) (E : List (List Int)) : Nat → List Int
 | 0 => iota n
 | j + 1 => mrg ((labS n E j).getD (ea E j).toNat 0) ((labS n E j).getD (eb E j).toNat 0) (labS n E j)
def labI (n : Nat) (E : List (List Int)) : Nat → List Int
 | 0 => iota n
 | j + 1 => mrg (min ((labI n E j).getD (ea E j).toNat 0) ((labI n E j).getD (eb E j).toNat 0)) (max ((labI n E j).getD (ea E j).toNat 0) ((labI n E j).getD (eb E j).toNat 0)) (labI n E j)
theorem labS_len (n : Nat) (E : List (List Int)) : ∀ j, (labS n E j).length = n
 | 0 => iota_len n
 | j + 1 => by rw [labS, mrg_len, labS_len n E j]
theorem labI_len (n : Nat) (E : List (List Int)) : ∀ j, (labI n E j).length = n
 | 0 => iota_len n
 | j + 1 => by rw [labI, mrg_len, labI_len n E j]
def GoodAt (n : Nat) (E : List (List Int)) (j : Nat) : Prop := (E.getD j []).length = 2 ∧ (0 ≤ ea E j ∧ ea E j < eb E j ∧ eb E j < n) ∧ (0 < j → lexC (E.getD (j - 1) []) (E.getD j []) < 0)
instance (n : Nat) (E : List (List Int)) (j : Nat) : Decidable (GoodAt n E j) := by unfold GoodAt; infer_instance
def GoodE (n : Nat) (E : List (List Int)) : Prop := ∀ j, j < E.length → GoodAt n E j
instance (n : Nat) (E : List (List Int)) : Decidable (GoodE n E) := by unfold GoodE; infer_instance
def Joins (n : Nat) (E : List (List Int)) (j : Nat) : Prop := (labI n E j).getD (ea E j).toNat 0 ≠ (labI n E j).getD (eb E j).toNat 0
instance (n : Nat) (E : List (List Int)) (j : Nat) : Decidable (Joins n E j) := by unfold Joins; infer_instance
def Acy (n : Nat) (E : List (List Int)) : Prop := ∀ j, j < E.length → Joins n E j
instance (n : Nat) (E : List (List Int)) : Decidable (Acy n E) := by unfold Acy; infer_instance
theorem lab_rel {n : Nat} {E : List (List Int)} : ∀ j, (∀ i, i < j → GoodAt n E i) → ∀ u v, u < n → v < n → ((labS n E j).getD u 0 = (labS n E j).getD v 0 ↔ (labI n E j).getD u 0 = (labI n E j).getD v 0)
 | 0, _, u, v, _, _ => Iff.rfl
 | j + 1, hg, u, v, hu, hv => by
  have ih := lab_rel j (fun i hi => hg i (by omega))
  have g := (hg j (by omega)).2.1
  have l1 := labS_len n E j
  have l2 := labI_len n E j
  have ha : (ea E j).toNat < n := by omega
  have hb : (eb E j).toNat < n := by omega
  rw [labS, labI, mrg_rel (by omega) (by omega), mrg_rel (by omega) (by omega), ih u v hu hv, ih u _ hu ha, ih u _ hu hb, ih v _ hv ha, ih v _ hv hb]
  generalize (labI n E j).getD (ea E j).toNat 0 = a
  generalize (labI n E j).getD (eb E j).toNat 0 = b
  generalize (labI n E j).getD u 0 = x
  generalize (labI n E j).getD v 0 = y
  have key : ∀ x : Int, (x = min a b ∨ x = max a b) ↔ (x = a ∨ x = b) := fun x => by omega
  rw [key, key]
theorem joins_S {n : Nat} {E : List (List Int)} {j : Nat} (hg : ∀ i, i < j + 1 → GoodAt n E i) : Joins n E j ↔ (labS n E j).getD (ea E j).toNat 0 ≠ (labS n E j).getD (eb E j).toNat 0 := by
 have g := (hg j (by omega)).2.1
 exact not_congr (lab_rel j (fun i hi => hg i (by omega)) _ _ (by omega) (by omega)).symm
def isRoot (L : List Int) (i : Nat) : Bool := L.getD i 0 == (i : Int)
def cnt (f : Nat → Bool) : Nat → Nat
 | 0 => 0
 | n + 1 => cnt f n + if f n then 1 else 0
theorem cnt_drop {f g : Nat → Bool} {q : Nat} (hq : f q = true) (hgq : g q = false) : ∀ n, (∀ i, i < n → i ≠ q → f i = g i) → cnt f n = cnt g n + if q < n then 1 else 0
 | 0, _ => by simp [cnt]
 | n + 1, h => by
  have ih := cnt_drop hq hgq n (fun i hi => h i (by omega))
  rw [cnt, cnt, ih]
  by_cases e : n = q
  ·subst e; simp [hq, hgq]
  ·rw [h n (by omega) e]
   by_cases h1 : q < n
   ·rw [if_pos h1, if_pos (show q < n + 1 by omega)]; omega
   ·rw [if_neg h1, if_neg (show ¬ q < n + 1 by omega)]; omega
theorem cnt_le (f : Nat → Bool) : ∀ n, cnt f n ≤ n
 | 0 => Nat.le_refl _
 | n + 1 => by have := cnt_le f n; rw [cnt]; split <;> omega
theorem cnt_mono (f : Nat → Bool) {a b : Nat} (h : a ≤ b) : cnt f a ≤ cnt f b := by
 induction b with
 | zero => rw [Nat.le_zero.1 h]; exact Nat.le_refl _
 | succ b ih =>
  rcases Nat.lt_or_ge a (b + 1) with h1 | h1
  ·have := ih (by omega)
   rw [cnt]; omega
  ·rw [Nat.le_antisymm h h1]; exact Nat.le_refl _
theorem cnt_lt (f : Nat → Bool) {a b : Nat} (h : a < b) (ha : f a = true) : cnt f a < cnt f b := by
 have := cnt_mono f (a := a + 1) (b := b) (by omega)
 rw [cnt, ha] at this
 simp at this
 omega
theorem cnt_all {f : Nat → Bool} : ∀ n, (∀ i, i < n → f i = true) → cnt f n = n
 | 0, _ => rfl
 | n + 1, h => by rw [cnt, cnt_all n (fun i hi => h i (by omega)), h n (by omega)]; rfl
def Roots (n : Nat) (L : List Int) : Prop := L.length = n ∧ ∀ i, i < n → 0 ≤ L.getD i 0 ∧ L.getD i 0 ≤ i ∧ L.getD (L.getD i 0).toNat 0 = L.getD i 0
theorem roots_mrg {n : Nat} {L : List Int} {a b : Nat} (h : Roots n L) (ha : a < n) (hb : b < n) (hab : L.getD a 0 < L.getD b 0) :
  Roots n (mrg (L.getD a 0) (L.getD b 0) L) ∧ cnt (isRoot L) n = cnt (isRoot (mrg (L.getD a 0) (L.getD b 0) L)) n + 1 := by
 obtain ⟨hl, h⟩ := h
 have h1 := h a ha
 have h2 := h b hb
 generalize hp : L.getD a 0 = p at *
 generalize hq : L.getD b 0 = q at *
 have at' : ∀ i, i < n → (mrg p q L).getD i 0 = if L.getD i 0 = q then p else L.getD i 0 := fun i hi => mrg_at (by omega)
 refine ⟨⟨by rw [mrg_len, hl], fun i hi => ?_⟩, ?_⟩
 ·have h3 := h i hi
  rw [at' i hi]
  by_cases e : L.getD i 0 = q
  ·rw [if_pos e, at' _ (by omega), h1.2.2, if_neg (by omega)]
   omega
  ·rw [if_neg e, at' _ (by omega), h3.2.2, if_neg e]
   omega
 ·have hr := cnt_drop (f := isRoot L) (g := isRoot (mrg p q L)) (q := q.toNat) (by unfold isRoot; rw [beq_iff_eq, h2.2.2]; omega) (by
   have := at' q.toNat (by omega)
   rw [h2.2.2, if_pos rfl] at this
   simp only [isRoot, this, beq_eq_false_iff_ne]
   omega) n (fun i hi hne => by
    have h3 := h i hi
    simp only [isRoot, at' i hi]
    by_cases e : L.getD i 0 = q
    ·rw [if_pos e]
     have : L.getD i 0 ≠ (i : Int) := fun e2 => hne (by omega)
     have h4 : p ≠ (i : Int) := by omega
     rw [beq_eq_false_iff_ne.2 this, beq_eq_false_iff_ne.2 h4]
    ·rw [if_neg e])
  rw [hr, if_pos (by omega)]
theorem roots_iota (n : Nat) : Roots n (iota n) := by
 refine ⟨iota_len n, fun i hi => ?_⟩
 rw [iota_at hi, Int.toNat_natCast, iota_at hi]
 omega
theorem roots_labI {n : Nat} {E : List (List Int)} : ∀ j, (∀ i, i < j → GoodAt n E i) → Roots n (labI n E j) ∧ n ≤ cnt (isRoot (labI n E j)) n + j ∧ (cnt (isRoot (labI n E j)) n + j = n ↔ ∀ i, i < j → Joins n E i)
 | 0, _ => by
  refine ⟨roots_iota n, ?_⟩
  have : cnt (isRoot (labI n E 0)) n = n := cnt_all n fun i hi => by rw [isRoot, labI, iota_at hi]; simp
  rw [this]
  exact ⟨by omega, fun _ i hi => absurd hi (by omega), fun _ => by omega⟩
 | j + 1, hg => by
  obtain ⟨h1, h2, h3⟩ := roots_labI j (fun i hi => hg i (by omega))
  have g := (hg j (by omega)).2.1
  have hall : (∀ i, i < j + 1 → Joins n E i) ↔ (∀ i, i < j → Joins n E i) ∧ Joins n E j :=
   ⟨fun h => ⟨fun i hi => h i (by omega), h j (by omega)⟩, fun h i hi => by
    by_cases e : i = j
    ·subst e; exact h.2
    ·exact h.1 i (by omega)⟩
  rw [hall]
  by_cases hj : Joins n E j
  ·have hj' := hj
   unfold Joins at hj'
   rw [labI]
   rcases Int.lt_or_lt_of_ne hj' with h4 | h4
   ·obtain ⟨t1, t2⟩ := roots_mrg h1 (by omega) (by omega) h4
    rw [Int.min_eq_left (by omega), Int.max_eq_right (by omega)]
    exact ⟨t1, by omega, fun h => ⟨h3.1 (by omega), hj⟩, fun h => by have := h3.2 h.1; omega⟩
   ·obtain ⟨t1, t2⟩ := roots_mrg h1 (by omega) (by omega) h4
    rw [Int.min_eq_right (by omega), Int.max_eq_left (by omega)]
    exact ⟨t1, by omega, fun h => ⟨h3.1 (by omega), hj⟩, fun h => by have := h3.2 h.1; omega⟩
  ·have e : (labI n E j).getD (ea E j).toNat 0 = (labI n E j).getD (eb E j).toNat 0 := Decidable.not_not.1 hj
   rw [labI, e, Int.min_self, Int.max_self, mrg_same]
   exact ⟨h1, by omega, ⟨fun h => by omega, fun h => absurd h.2 hj⟩⟩
theorem acy_def {n : Nat} {E : List (List Int)} : Acy n E ↔ ∀ j, j < E.length → Joins n E j := Iff.rfl
theorem good_def {n : Nat} {E : List (List Int)} : GoodE n E ↔ ∀ j, j < E.length → GoodAt n E j := Iff.rfl
theorem goodAt_def {n : Nat} {E : List (List Int)} {j : Nat} : GoodAt n E j ↔ (E.getD j []).length = 2 ∧ (0 ≤ ea E j ∧ ea E j < eb E j ∧ eb E j < n) ∧ (0 < j → lexC (E.getD (j - 1) []) (E.getD j []) < 0) := Iff.rfl
theorem acy_iff {n : Nat} {E : List (List Int)} (hg : GoodE n E) : cnt (isRoot (labI n E E.length)) n + E.length = n ↔ Acy n E := (roots_labI E.length hg).2.2
theorem GoodAt.edge {n : Nat} {E : List (List Int)} {j : Nat} (h : GoodAt n E j) (hj : j < E.length) : E[j]? = some [ea E j, eb E j] := by
 obtain ⟨h1, _⟩ := h
 rw [List.getElem?_eq_getElem hj, Option.some.injEq]
 have e : E.getD j [] = E[j] := by simp [List.getD, hj]
 rw [e] at h1
 unfold ea eb
 rw [e]
 match hx : E[j], h1 with
 | [x, y], _ => rfl
theorem GoodE.mem {n : Nat} {E : List (List Int)} (h : GoodE n E) {e : List Int} (he : e ∈ E) : ∃ j, j < E.length ∧ e = [ea E j, eb E j] ∧ 0 ≤ ea E j ∧ ea E j < eb E j ∧ eb E j < n := by
 obtain ⟨j, hj, rfl⟩ := List.getElem_of_mem he
 have := (h j hj).edge hj
 rw [List.getElem?_eq_getElem hj, Option.some.injEq] at this
 exact ⟨j, hj, this, (h j hj).2.1⟩
theorem GoodE.adj {n : Nat} {E : List (List Int)} (h : GoodE n E) {x y : Int} (ha : Adj E x y) : (0 ≤ x ∧ x < n) ∧ (0 ≤ y ∧ y < n) ∧ x ≠ y := by
 rcases ha with ha | ha
 ·obtain ⟨j, hj, e, h1⟩ := h.mem ha
  simp only [List.cons.injEq, and_true] at e
  omega
 ·obtain ⟨j, hj, e, h1⟩ := h.mem ha
  simp only [List.cons.injEq, and_true] at e
  omega
theorem take_step {E : List (List Int)} {n j : Nat} (h : GoodAt n E j) (hj : j < E.length) : E.take (j + 1) = E.take j ++ [[ea E j, eb E j]] := by
 rw [List.take_add_one, h.edge hj]; rfl
theorem forest_take {n : Nat} {E : List (List Int)} (hg : GoodE n E) (ha : Acy n E) : ∀ j, j ≤ E.length → Forest (E.take j) ∧ Sep (E.take j) (fun x => (labI n E j).getD x.toNat 0)
 | 0, _ => ⟨by rw [List.take_zero]; exact forest_nil, ⟨fun x y h => by simp [Adj] at h⟩⟩
 | j + 1, hj => by
  obtain ⟨h1, h2⟩ := forest_take hg ha j (by omega)
  have g := hg j (by omega)
  have g1 := g.2.1
  have hl := labI_len n E j
  rw [take_step g (by omega)]
  refine ⟨forest_step h2 h1 (ha j (by omega)), ⟨fun x y hxy => ?_⟩⟩
  have hmem : ∀ e ∈ E.take j ++ [[ea E j, eb E j]], e ∈ E := by
   rw [← take_step g (by omega)]
   exact fun e he => List.mem_of_mem_take he
  have hr := hg.adj (x := x) (y := y) (hxy.imp (hmem _) (hmem _))
  show (labI n E (j + 1)).getD x.toNat 0 = (labI n E (j + 1)).getD y.toNat 0
  rw [labI, mrg_rel (by omega) (by omega)]
  have hold : Adj (E.take j) x y ∨ ((x = ea E j ∧ y = eb E j) ∨ (x = eb E j ∧ y = ea E j)) := by
   rcases hxy with k | k <;> simp only [List.mem_append, List.mem_singleton, List.cons.injEq, and_true] at k <;> rcases k with k | k
   ·exact .inl (.inl k)
   ·exact .inr (.inl k)
   ·exact .inl (.inr k)
   ·exact .inr (.inr ⟨k.2, k.1⟩)
  rcases hold with k | ⟨rfl, rfl⟩ | ⟨rfl, rfl⟩
  ·exact .inl (h2.same x y k)
  ·right; omega
  ·right; omega
def IsGr (w : List Int) (E : List (List Int)) : Prop := (1 ≤ w.length ∧ w.length ≤ 40) ∧ (∀ i, i < w.length → -1000 ≤ w.getD i 0 ∧ w.getD i 0 ≤ 1000) ∧ GoodE w.length E ∧ Acy w.length E
instance decIsGr (w : List Int) (E : List (List Int)) : Decidable (IsGr w E) := by unfold IsGr; infer_instance
theorem isGr_def (w : List Int) (E : List (List Int)) : IsGr w E ↔ (1 ≤ w.length ∧ w.length ≤ 40) ∧ (∀ i, i < w.length → -1000 ≤ w.getD i 0 ∧ w.getD i 0 ≤ 1000) ∧ GoodE w.length E ∧ Acy w.length E := Iff.rfl
theorem IsGr.forest {w : List Int} {E : List (List Int)} (h : IsGr w E) : Forest E := by
 have := (forest_take h.2.2.1 h.2.2.2 E.length (Nat.le_refl _)).1
 rwa [List.take_length] at this
def labOf (w : List Int) (E : List (List Int)) (x : Int) : Int := (labI w.length E E.length).getD x.toNat 0
theorem IsGr.sep {w : List Int} {E : List (List Int)} (h : IsGr w E) : Sep E (labOf w E) := by
 have := (forest_take h.2.2.1 h.2.2.2 E.length (Nat.le_refl _)).2
 rwa [List.take_length] at this
theorem IsGr.roots {w : List Int} {E : List (List Int)} (h : IsGr w E) : Roots w.length (labI w.length E E.length) := (roots_labI E.length h.2.2.1).1
theorem IsGr.count {w : List Int} {E : List (List Int)} (h : IsGr w E) : cnt (isRoot (labI w.length E E.length)) w.length + E.length = w.length := (acy_iff h.2.2.1).2 h.2.2.2
theorem IsGr.few {w : List Int} {E : List (List Int)} (h : IsGr w E) : E.length < w.length := by
 have h1 := h.count
 have h2 := h.roots.2 0 (by have := h.1; omega)
 have h3 := cnt_lt (isRoot (labI w.length E E.length)) (a := 0) (b := w.length) (by have := h.1; omega) (by unfold isRoot; rw [beq_iff_eq]; omega)
 rw [cnt] at h3
 omega
theorem closed_lab {n : Nat} {E : List (List Int)} (hg : GoodE n E) {S : Int → Prop} (hS : ∀ x y, Adj E x y → S x → S y) : ∀ j, j ≤ E.length → ∀ u v : Nat, u < n → v < n → (labI n E j).getD u 0 = (labI n E j).getD v 0 → S u → S v
 | 0, _, u, v, hu, hv, h, hs => by
  rw [labI, iota_at hu, iota_at hv] at h
  rw [← h]; exact hs
 | j + 1, hj, u, v, hu, hv, h, hs => by
  have ih := closed_lab hg hS j (by omega)
  have g := hg j (by omega)
  have g1 := g.2.1
  have hl := labI_len n E j
  rw [labI, mrg_rel (by omega) (by omega)] at h
  have hmem : [ea E j, eb E j] ∈ E := List.mem_of_getElem? (g.edge (by omega))
  have hab : S (ea E j) ↔ S (eb E j) := ⟨hS _ _ (.inl hmem), hS _ _ (.inr hmem)⟩
  have ea' : ((ea E j).toNat : Int) = ea E j := by omega
  have eb' : ((eb E j).toNat : Int) = eb E j := by omega
  rcases h with h | ⟨h1, h2⟩
  ·exact ih u v hu hv h hs
  ·have key1 : (labI n E j).getD u 0 = (labI n E j).getD (ea E j).toNat 0 ∨ (labI n E j).getD u 0 = (labI n E j).getD (eb E j).toNat 0 := by omega
   have key2 : (labI n E j).getD v 0 = (labI n E j).getD (ea E j).toNat 0 ∨ (labI n E j).getD v 0 = (labI n E j).getD (eb E j).toNat 0 := by omega
   have sa : S (ea E j) := by
    rcases key1 with k | k
    ·have := ih u _ hu (by omega) k hs
     rwa [ea'] at this
    ·have := ih u _ hu (by omega) k hs
     rw [eb'] at this
     exact hab.2 this
   rcases key2 with k | k
   ·exact ih _ v (by omega) hv k.symm (by rw [ea']; exact sa)
   ·exact ih _ v (by omega) hv k.symm (by rw [eb']; exact hab.1 sa)
end Go.Proofs.YtmgmpnhlehonmaaGreat
namespace Go.Pv
open Go.RowKit
section
variable {P : Program} {n : NN} {st : Nat → AV} {nx nid : Nat} {dr : Bool} {ops l : List Oper} {pre : List (List Nat × List Nat)} {Q : (Nat → AV) → Nat → Prop}
def RunU (dr : Bool) (P : Program) (n : NN) (ops l : List Oper) (st : Nat → AV) (nx : Nat) (pre : List (List Nat × List Nat)) (Q : (Nat → AV) → Nat → Prop) : Prop :=
 if dr = true then RunD P n ops l st nx pre Q else RunL P n ops.toArray l st nx Q
theorem RunL.more {ops : Array Oper} (h : RunL P n ops l st (nx + 1) Q) : RunL P n ops l st nx Q :=
 fun f a w Q' hn hr hQ => h f a w Q' hn (hr.weaken fun i hi => by omega) hQ
theorem RunU.nilL (h : Q st nx) : RunU false P n ops [] st nx pre Q := RunL.nil h
theorem RunU.nilD (hp : pairsOk ops pre.reverse = true) (h : Q st nx) : RunU true P n ops [] st nx pre Q := RunD.nil hp h
theorem RunU.cons {d op ty pos aft rd up} (hs : Step P n ⟨d, op, ty, pos, aft, none⟩ nx st rd up) (h : RunU dr P n ops l (puts st up) (nx + 1) ((rdE rd, fpE (up.map Prod.fst)) :: pre) Q) : RunU dr P n ops (⟨d, op, ty, pos, aft, none⟩ :: l) st nx pre Q := by
 cases dr
 ·exact RunL.cons hs h
 ·exact RunD.cons hs h
theorem RunU.consW {d op ty pos aft wk rd up} (hs : StepW P n ⟨d, op, ty, pos, aft, none⟩ nx st wk rd up) (h : RunU dr P n ops l (puts st up) (nx + 1) ((wkE wk ++ rdE rd, fpE (up.map Prod.fst)) :: pre) Q) : RunU dr P n ops (⟨d, op, ty, pos, aft, none⟩ :: l) st nx pre Q := by
 cases dr
 ·exact RunL.cons (rd := rd ++ wk) (fun X st' h1 hX => hs X st' (fun s h => h1 s (List.mem_append_left _ h)) (fun s h => by rw [h1 s (List.mem_append_right _ h)]) hX) h
 ·exact RunD.consW hs h
theorem RunU.consK {d op ty pos aft rd up0 x v up} (hs : Step P n ⟨d, op, ty, pos, aft, none⟩ nx st rd up0) (he : up0 = (x, v) :: up) (hx : rd.contains x = true) (hv : hdr v = hdr (st x))
  (h : RunU dr P n ops l (puts st ((x, v) :: up)) (nx + 1) ((rdE rd, (2 * x) :: fpE (up.map Prod.fst)) :: pre) Q) : RunU dr P n ops (⟨d, op, ty, pos, aft, none⟩ :: l) st nx pre Q := by
 subst he
 cases dr
 ·exact RunL.cons hs h
 ·exact RunD.consK hs hx hv h
theorem RunU.doit {d op ty pos aft j b t rd up} (hd : (ops[j]?).bind (·.dst) = some t) (ht : st t = .c (.lit (.bool b))) (hs : Step P n ⟨d, op, ty, pos, aft, some (j, b)⟩ nx st rd up)
  (h : RunU dr P n ops l (puts st up) (nx + 1) ((rdE (t :: rd), fpE (up.map Prod.fst)) :: pre) Q) : RunU dr P n ops (⟨d, op, ty, pos, aft, some (j, b)⟩ :: l) st nx pre Q := by
 cases dr
 ·exact RunL.doit (by simpa using hd) ht hs h
 ·exact RunD.doit hd ht hs h
theorem RunU.pass {d op ty pos aft j b b' t} (hd : (ops[j]?).bind (·.dst) = some t) (ht : st t = .c (.lit (.bool b))) (hb : b = !b') (hdn : n d = true)
  (h : RunU dr P n ops l (put st d (.tup [])) (nx + 1) ((rdE [t], fpE [d]) :: pre) Q) : RunU dr P n ops (⟨some d, op, ty, pos, aft, some (j, b')⟩ :: l) st nx pre Q := by
 cases dr
 ·exact RunL.pass (by simpa using hd) ht hb hdn (RunL.more h)
 ·exact RunD.pass hd ht hb hdn h
theorem RunU.pass_undef {d op ty pos aft j b' t} (hd : (ops[j]?).bind (·.dst) = some t) (ht : st t = .tup []) (hdn : n d = true)
  (h : RunU dr P n ops l (put st d (.tup [])) (nx + 1) ((rdE [t], fpE [d]) :: pre) Q) : RunU dr P n ops (⟨some d, op, ty, pos, aft, some (j, b')⟩ :: l) st nx pre Q := by
 cases dr
 ·exact RunL.pass_undef (by simpa using hd) ht hdn (RunL.more h)
 ·exact RunD.pass_undef hd ht hdn h
theorem RunU.guard {d op ty pos aft j b' t} {b : Bool} (hd : (ops[j]?).bind (·.dst) = some t) (ht : st t = .c (.lit (.bool b)))
  (h1 : b = true → RunU dr P n ops (⟨d, op, ty, pos, aft, some (j, b')⟩ :: l) (put st t (.c (.lit (.bool true)))) nx pre Q)
  (h2 : b = false → RunU dr P n ops (⟨d, op, ty, pos, aft, some (j, b')⟩ :: l) (put st t (.c (.lit (.bool false)))) nx pre Q) : RunU dr P n ops (⟨d, op, ty, pos, aft, some (j, b')⟩ :: l) st nx pre Q := by
 have _ := hd
 cases b with
 | true => have := h1 rfl; rwa [put_eq_self ht] at this
 | false => have := h2 rfl; rwa [put_eq_self ht] at this
theorem RunU.guard_dec {d op ty pos aft j b' t} {c : Prop} {hc : Decidable c} (hd : (ops[j]?).bind (·.dst) = some t) (ht : st t = .c (.lit (.bool (@decide c hc))))
  (h1 : c → RunU dr P n ops (⟨d, op, ty, pos, aft, some (j, b')⟩ :: l) (put st t (.c (.lit (.bool true)))) nx pre Q)
  (h2 : ¬ c → RunU dr P n ops (⟨d, op, ty, pos, aft, some (j, b')⟩ :: l) (put st t (.c (.lit (.bool false)))) nx pre Q) : RunU dr P n ops (⟨d, op, ty, pos, aft, some (j, b')⟩ :: l) st nx pre Q :=
 RunU.guard hd ht (fun h => h1 (of_decide_eq_true h)) (fun h => h2 (of_decide_eq_false h))
theorem RunU.guard_not {d op ty pos aft j b' t} {c : Prop} {hc : Decidable c} (hd : (ops[j]?).bind (·.dst) = some t) (ht : st t = .c (.lit (.bool (!@decide c hc))))
  (h1 : ¬ c → RunU dr P n ops (⟨d, op, ty, pos, aft, some (j, b')⟩ :: l) (put st t (.c (.lit (.bool true)))) nx pre Q)
  (h2 : c → RunU dr P n ops (⟨d, op, ty, pos, aft, some (j, b')⟩ :: l) (put st t (.c (.lit (.bool false)))) nx pre Q) : RunU dr P n ops (⟨d, op, ty, pos, aft, some (j, b')⟩ :: l) st nx pre Q :=
 RunU.guard hd ht (fun h => h1 (of_decide_eq_false (by simpa using h))) (fun h => h2 (of_decide_eq_true (by simpa using h)))
theorem WpA.regionU {Q : Exit → (Nat → AV) → Nat → Prop} {id : Nat} (h : RunU false P n l l st nx [] fun s k => Q .normal s k) : WpA P n (.region id l.toArray false) st nx Q := WpA.region h
theorem WpA.drawU [hm : Mixed P] {Q : Exit → (Nat → AV) → Nat → Prop} {id : Nat} (h : RunU true P n l l st nx [] fun s k => Q .normal s k) : WpA P n (.region id l.toArray true) st nx Q := WpA.draw h
end
end Go.Pv
namespace Go.Pv
open Go.RowKit
section
variable {P : Program} {n : NN} {nid : Nat} {st : Nat → AV} {f : Fr} {X : Nat → Prop} {a : Act} {w : World} {ρ : Nat → Rho} {L : Nat → List Nat} {M : List Nat}
theorem nav_put : ∀ (path : List Nat) (dd d0 e : D), dd.nav path = some d0 → (dd.put path e).nav path = some e
 | [], _, _, _, _ => rfl
 | k :: path, dd, d0, e, h => by
  simp only [D.nav] at h
  cases hk : dd.kids with
  | none => simp [hk] at h
  | some cs =>
   simp only [hk] at h
   cases hc : cs[k]? with
   | none => simp [hc] at h
   | some c =>
    simp only [hc] at h
    have hlt : k < cs.length := (List.getElem?_eq_some_iff.1 hc).1
    simp only [D.put, hk, hc, D.nav, kids_with hk, List.getElem?_set_self hlt]
    exact nav_put path c d0 e h
theorem put_put : ∀ (path : List Nat) (dd d0 e e' : D), dd.nav path = some d0 → (dd.put path e).put path e' = dd.put path e'
 | [], _, _, _, _, _ => rfl
 | k :: path, dd, d0, e, e', h => by
  simp only [D.nav] at h
  cases hk : dd.kids with
  | none => simp [hk] at h
  | some cs =>
   simp only [hk] at h
   cases hc : cs[k]? with
   | none => simp [hc] at h
   | some c =>
    simp only [hc] at h
    have hlt : k < cs.length := (List.getElem?_eq_some_iff.1 hc).1
    simp only [D.put, hk, hc, kids_with hk, List.getElem?_set_self hlt, with_with hk, List.set_set]
    rw [put_put path c d0 e e' h]
theorem WpA.loop_slots2 {c : Code} {nx : Nat} {Q : Exit → (Nat → AV) → Nat → Prop} (slots : Nat → Nat → List (Nat × AV)) (C : Nat → Prop) (μ : Nat → Nat) (i0 id0 : Nat) (hC : C i0) (h0 : Has st (slots i0 id0))
  (round : ∀ i id s k, C i → WpA P n c (puts s (slots i id)) k (Then (fun s' _ => ∃ i', C i' ∧ (∃ id', Has s' (slots i' id')) ∧ μ i' < μ i) Q)) : WpA P n (.loop c) st nx Q :=
 WpA.loop_slots (ι := Nat × Nat) (fun p => slots p.1 p.2) (fun p => C p.1) (fun p => μ p.1) (i0, id0) hC h0 fun p s k hp =>
  (round p.1 p.2 s k hp).mono fun e s' k' q => by
   cases e with
   | normal => obtain ⟨i', q1, ⟨id', q2⟩, q3⟩ := q; exact ⟨(i', id'), q1, q2, q3⟩
   | _ => exact q
inductive IoAt (st : Nat → AV) : Operand → Nat → Nat → List Nat → D → D → List Nat → Prop
 | sl {t id sz cs} : st t = .own id (.sl true sz cs) → IoAt st (.tmp t) t id [] (.sl true sz cs) (.sl true sz cs) [t]
 | pt {t id cs} : st t = .own id (.pt true cs) → IoAt st (.tmp t) t id [] (.pt true cs) (.pt true cs) [t]
 | als {t x id path dd sz cs} : st t = .als x id path → st x = .own id dd → dd.nav path = some (.sl true sz cs) → IoAt st (.tmp t) x id path dd (.sl true sz cs) [t, x]
 | ptr {t x id cs} : st t = .ptr x id [] 0 → st x = .own id (.pt true cs) → IoAt st (.tmp t) x id [] (.pt true cs) (.pt true cs) [t, x]
theorem IoAt.agree {st' : Nat → AV} {x : Operand} {xr id : Nat} {path rd : List Nat} {dd d : D} (h : IoAt st x xr id path dd d rd) (hs : ∀ s ∈ rd, st' s = st s) : IoAt st' x xr id path dd d rd := by
 cases h with
 | sl h => exact .sl ((hs _ (by simp)).trans h)
 | pt h => exact .pt ((hs _ (by simp)).trans h)
 | als h1 h2 h3 => exact .als ((hs _ (by simp)).trans h1) ((hs _ (by simp)).trans h2) h3
 | ptr h1 h2 => exact .ptr ((hs _ (by simp)).trans h1) ((hs _ (by simp)).trans h2)
theorem IoAt.own {x : Operand} {xr id : Nat} {path rd : List Nat} {dd d : D} (h : IoAt st x xr id path dd d rd) : st xr = .own id dd ∧ dd.nav path = some d ∧ xr ∈ rd := by
 cases h <;> exact ⟨by assumption, by first | rfl | assumption, by simp⟩
theorem named {F : Nat → Prop} {w : World} {d : D} {cs : List D} {r : Rho} {v : Value} {L1 : List Nat} (hk : d.kids = some cs) (h : RD F w d r v L1) : v = r [] := by
 cases d with
 | lit v => simp [D.kids] at hk
 | hole => simp [D.kids] at hk
 | fn g cs => simp [D.kids] at hk
 | sl own sz cs' => cases own <;> simp [D.kids] at hk; simp only [RD] at h; exact h.1
 | pt own cs' => cases own <;> simp [D.kids] at hk; simp only [RD] at h; exact h.1
theorem IoAt.kids {x : Operand} {xr id : Nat} {path rd : List Nat} {dd d : D} (h : IoAt st x xr id path dd d rd) : ∃ cs, d.kids = some cs := by
 cases h <;> exact ⟨_, rfl⟩
theorem IoAt.eval (hr : RepO f X st a w ρ L) {x : Operand} {xr id : Nat} {path rd : List Nat} {dd d : D} (h : IoAt st x xr id path dd d rd) : a.eval x = ρ id path := by
 cases h with
 | @sl _ _ sz cs h =>
  have := hr.slots xr
  rw [h] at this
  simp only [SR] at this
  exact named (cs := cs) rfl this
 | @pt _ _ cs h =>
  have := hr.slots xr
  rw [h] at this
  simp only [SR] at this
  exact named (cs := cs) rfl this
 | @als t x id path dd sz cs h1 h2 h3 =>
  have := hr.slots t
  rw [h1] at this
  simp only [SR] at this
  exact this.2
 | @ptr t _ _ cs h1 h2 =>
  have ht := hr.slots t
  rw [h1] at ht
  simp only [SR] at ht
  obtain ⟨_, b, hb, e0⟩ := ht
  have hx := hr.slots xr
  rw [h2] at hx
  simp only [SR] at hx
  simp only [RD] at hx
  obtain ⟨e1, g, us, L1, ty, e3, _⟩ := hx
  have e1 : tmp a xr = ρ id [] := e1
  rw [← e1, e3] at hb ⊢
  simp only [baseOf, Option.some.injEq] at hb
  show tmp a t = _
  rw [e0, ← hb, add_zero']
def litAV : List Value → AV
 | [] => .dead
 | [v] => .c (.lit v)
 | vs => .tup (vs.map fun v => .c (.lit v))
theorem lits_res {F : Nat → Prop} {w : World} : ∀ (vs : List Value) (us : List Value) (Lr : List Nat), VRs F w (vs.map fun v => .one (.lit v)) us Lr → us = vs ∧ Lr = [] ∧ ∀ v ∈ vs, v.oneCell' = true
 | [], us, Lr, h => by simp only [List.map_nil, VRs] at h; exact ⟨h.1, h.2, by simp⟩
 | v :: vs, us, Lr, h => by
  simp only [List.map_cons, VRs, VR, RD] at h
  obtain ⟨u, us', L1, L2, rfl, rfl, ⟨r, rfl, h1, rfl⟩, h2⟩ := h
  obtain ⟨rfl, rfl, h3⟩ := lits_res vs us' L2 h2
  exact ⟨rfl, rfl, by simpa using ⟨h1, h3⟩⟩
theorem SR_lit {F : Nat → Prop} {w : World} {ρ : Nat → Rho} {v : Value} (h : v.oneCell' = true) : SR F w ρ (.c (.lit v)) v [] := by
 simp only [SR, RD]; exact ⟨trivial, fun _ => undef, trivial, h, trivial⟩
theorem SRs_lits {F : Nat → Prop} {w : World} {ρ : Nat → Rho} : ∀ (vs : List Value), (∀ v ∈ vs, v.oneCell' = true) → SRs F w ρ (vs.map fun v => .c (.lit v)) vs []
 | [], _ => by simp [SRs]
 | v :: vs, h => by
  simp only [List.map_cons, SRs]
  exact ⟨v, vs, [], [], rfl, rfl, SR_lit (h v (by simp)), SRs_lits vs fun u hu => h u (by simp [hu])⟩
theorem SR_litAV {F : Nat → Prop} {w : World} {ρ : Nat → Rho} (vs : List Value) (h : ∀ v ∈ vs, v.oneCell' = true) : SR F w ρ (litAV vs) (retVal vs) [] := by
 match vs, h with
 | [], _ => simp only [litAV, SR]
 | [v], h => exact SR_lit (h v (by simp))
 | u :: v :: vs, h => simp only [litAV, SR]; exact ⟨_, rfl, SRs_lits _ h⟩
theorem litAV_ids (vs : List Value) : (litAV vs).ids = [] := by
 have : ∀ vs : List Value, AV.idss (vs.map fun v => .c (.lit v)) = [] := by
  intro vs
  induction vs with
  | nil => rfl
  | cons v vs ih => simp [AV.idss, AV.ids, ih]
 match vs with
 | [] => rfl
 | [v] => rfl
 | u :: v :: vs => simp only [litAV, AV.ids]; exact this _
theorem nav_LL {L : List (List Int)} {j : Nat} (h : j < L.length) : (D.sl true 1 (LL L)).nav ([] ++ [j]) = some (.sl true 1 (ints (L.getD j []))) := by
 simp only [List.nil_append, D.nav, D.kids, LL, LL_get h]
theorem idx_lit (k : Nat) : (OfNat.ofNat k : Int) = ((OfNat.ofNat k : Nat) : Int) := rfl
theorem nav_snoc : ∀ (path : List Nat) (dd d1 : D) (cs : List D) (c : D) (j : Nat), dd.nav path = some d1 → d1.kids = some cs → cs[j]? = some c → dd.nav (path ++ [j]) = some c
 | [], dd, d1, cs, c, j, h, hk, hc => by
  simp only [D.nav, Option.some.injEq] at h
  subst h
  simp only [List.nil_append, D.nav, hk, hc]
 | k :: path, dd, d1, cs, c, j, h, hk, hc => by
  simp only [D.nav] at h
  cases hk1 : dd.kids with
  | none => simp [hk1] at h
  | some cs1 =>
   simp only [hk1] at h
   cases hc1 : cs1[k]? with
   | none => simp [hc1] at h
   | some c1 =>
    simp only [hc1] at h
    simp only [List.cons_append, D.nav, hk1, hc1]
    exact nav_snoc path c1 d1 cs c j h hk hc
theorem nav_LL_at {path : List Nat} {dd : D} {L : List (List Int)} {j : Nat} (h : dd.nav path = some (.sl true 1 (LL L))) (hj : j < L.length) : dd.nav (path ++ [j]) = some (.sl true 1 (ints (L.getD j []))) :=
 nav_snoc path dd _ _ _ j h rfl (by simp only [LL, LL_get hj])
theorem own_put_LL {id : Nat} {L L' : List (List Int)} {j : Nat} {m : List Int} (h : j < L.length) (e : L.set j m = L') : AV.own id ((D.sl true 1 (LL L)).put ([] ++ [j]) (.sl true 1 (ints m))) = AV.own id (.sl true 1 (LL L')) := by
 subst e
 simp only [List.nil_append, D.put, D.kids, LL, LL_get h, D.withKids, List.map_set]
theorem iA {x : Operand} {xr id : Nat} {path rd : List Nat} {dd d : D} (h : IoAt st x xr id path dd d rd := by first | exact .als rfl rfl rfl | exact .als rfl rfl (nav_LL (by omega)) | exact .sl rfl | exact .pt rfl | exact .ptr rfl rfl) : IoAt st x xr id path dd d rd := h
end
end Go.Pv
