/- Steps that load from and store to variables and elements, and that lay new memory. No condition. -/
import Derived.Test.YtmgmpnhlehonmaaGreatWPvA
set_option linter.unusedVariables false
set_option linter.unusedSimpArgs false
namespace Go.Pv
open Go.RowKit
def Ok (P : Program) (n : NN) (o : Oper) (nid : Nat) (X : Nat -> Prop) (st st' : Nat -> AV) : Prop :=
 ∀ (f : Fr) (a : Act) (w : World), f.N = n -> Rep f X st a w -> ∀ (K : Act -> World -> Prop) (Q : Exit -> Act -> World -> Prop),
  (∀ a' w', Rep f (fun i => X i \/ i = nid) st' a' w' -> K a' w') -> o.wp P a w K Q
def Zg (P : Program) (n : NN) (o : Oper) (nid : Nat) (st : Nat -> AV) (rd : List Nat) (up : List (Nat × AV)) : Prop :=
 ∀ (X : Nat -> Prop) (st' : Nat -> AV), (∀ s ∈ rd, st' s = st s) -> ¬ X nid -> Ok P n o nid X st' (Zn st' up)
def OkX (P : Program) (n : NN) (o : Oper) (nid : Nat) (X : Nat -> Prop) (st st' : Nat -> AV) : Prop :=
 ∀ (f : Fr) (a : Act) (w : World), f.N = n -> Yy f X st a w -> ∀ (K : Act -> World -> Prop) (Q : Exit -> Act -> World -> Prop),
  (∀ a' w', Yy f (fun i => X i \/ i = nid) st' a' w' -> K a' w') -> o.wp P a w K Q
theorem Ok.x {P : Program} {n : NN} {o : Oper} {nid : Nat} {X : Nat -> Prop} {st st' : Nat -> AV} (h : Ok P n o nid X st st') : OkX P n o nid X st st' :=
 fun _ a w hn ⟨f', k, hr⟩ K Q hK => h f' a w (k.N.trans hn) hr K Q fun a' w' r => hK a' w' ⟨f', k, r⟩
def Xbh (P : Program) (n : NN) (o : Oper) (nid : Nat) (st : Nat -> AV) (rd : List Nat) (up : List (Nat × AV)) : Prop :=
 ∀ (X : Nat -> Prop) (st' : Nat -> AV), (∀ s ∈ rd, st' s = st s) -> ¬ X nid -> OkX P n o nid X st' (Zn st' up)
theorem Zg.x {P : Program} {n : NN} {o : Oper} {nid : Nat} {st : Nat -> AV} {rd : List Nat} {up : List (Nat × AV)} (h : Zg P n o nid st rd up) : Xbh P n o nid st rd up :=
 fun X st' hs hX => (h X st' hs hX).x
section
variable {P : Program} {n : NN} {nid : Nat} {st : Nat -> AV}
theorem wV_ {o : Oper} {a : Act} {w w' : World} {K : Act -> World -> Prop} {Q : Exit -> Act -> World -> Prop} {u : Value}
  (hr : (execOp a.eval o).run P w = .ok (.value u) w') (hK : K (a.put o.dst u) w') : o.wp P a w K Q := by
 unfold Oper.wp
 rw [hr]
 exact hK
theorem Zay {o : Oper} {a : Act} {w w' : World} {K : Act -> World -> Prop} {Q : Exit -> Act -> World -> Prop}
  (hr : (execOp a.eval o).run P w = .ok .skip w') (hK : K (a.put o.dst undef) w') : o.wp P a w K Q := by
 unfold Oper.wp
 rw [hr]
 exact hK
def Lit (st : Nat -> AV) : Operand -> Value -> Prop
 | .tmp t, v => st t = .c (.lit v)
 | .const u, v => u = v
 | .func f, v => Value.func (.func f) #[] #[] = v
 | .global _, _ => False
def Z5 : Operand -> List Nat
 | .tmp t => [t]
 | _ => []
theorem Lit.agree {st st' : Nat -> AV} {x : Operand} {v : Value} (h : Lit st x v) (hs : ∀ s ∈ Z5 x, st' s = st s) : Lit st' x v := by
 cases x with
 | tmp t => simp only [Lit] at *; rw [hs t (by simp [Z5])]; exact h
 | _ => exact h
theorem Lit.eval {f : Fr} {X : Nat -> Prop} {st : Nat -> AV} {a : Act} {w : World} {ρ : Nat -> Rho} {L : Nat -> List Nat} (h : Ve f X st a w ρ L) {x : Operand} {v : Value} (hx : Lit st x v) : a.eval x = v := by
 cases x with
 | tmp t =>
  have := h.slots t
  simp only [Lit] at hx
  rw [hx] at this
  simp only [SR, RD] at this
  exact this.2.choose_spec.1
 | const u => exact hx
 | func f => exact hx
 | global g => exact hx.elim
theorem Vz {o : Oper} {d : Nat} {u : Value} (xs : List (Operand × Value)) (hdst : o.dst = some d) (hd : n d = true) (hu : u.oneCell' = true)
  (hl : ∀ p ∈ xs, Lit st p.1 p.2)
  (hrun : ∀ (ev : Operand -> Value) (w : World), (∀ p ∈ xs, ev p.1 = p.2) -> (execOp ev o).run P w = .ok (.value u) w) :
  Zg P n o nid st (xs.flatMap fun p => Z5 p.1) [(d, .c (.lit u))] := by
 intro X st' hs hX f a w hn hrep K Q hK
 obtain ⟨ρ, L, h⟩ := hrep
 subst hn
 refine wV_ (hrun a.eval w fun p hp => Lit.eval h ((hl p hp).agree fun s hs' => hs s (List.mem_flatMap.2 ⟨p, hp, hs'⟩))) (hK _ _ ⟨ρ, fun t => if t = d then [] else L t, ?_⟩)
 rw [hdst]
 exact (h.put_light d hd (.c (.lit u)) u w (Zy.refl w) (by simp only [SR, RD]; exact ⟨trivial, fun _ => .bool true, trivial, hu, trivial⟩) u3).weaken (fun i hi => .inl hi)
theorem Zef {d t : Nat} {dd : D} {ty pos aft g} (h : st t = .c dd) (hd : n d = true) :
  Zg P n ⟨some d, .move (.tmp t), ty, pos, aft, g⟩ nid st [t] [(d, .c dd)] := by
 intro X st' hs hX f a w hn hrep K Q hK
 obtain ⟨ρ, L, hr⟩ := hrep
 subst hn
 have ht : st' t = .c dd := (hs t (by simp)).trans h
 have hv := hr.slots t
 rw [ht] at hv
 refine wV_ (u := tmp a t) (w' := w) rfl (hK _ _ ⟨ρ, _, (hr.put_light d hd (.c dd) (tmp a t) w (Zy.refl w) ?_ u3).weaken (fun i hi => .inl hi)⟩)
 simp only [SR] at hv ⊢
 exact ⟨trivial, hv.2⟩
theorem Wn {d : Nat} {u : Value} {ty pos aft g} (hu : u.oneCell' = true) (hd : n d = true) :
  Zg P n ⟨some d, .assign (.const u), ty, pos, aft, g⟩ nid st [] [(d, .c (.lit u))] :=
 Vz [(.const u, u)] rfl hd hu (by simp [Lit]) (fun ev w h => by simp only [execOp, h (.const u, u) (by simp)]; rfl)
theorem Zeu {d : Nat} {u : Value} {ty pos aft g} (hu : u.oneCell' = true) (hd : n d = true) :
  Zg P n ⟨some d, .move (.const u), ty, pos, aft, g⟩ nid st [] [(d, .c (.lit u))] :=
 Vz [(.const u, u)] rfl hd hu (by simp [Lit]) (fun ev w h => by simp only [execOp, h (.const u, u) (by simp)]; rfl)
theorem Ziu {d t : Nat} {dd : D} {ty pos aft g} (h : st t = .c dd) (hd : n d = true) :
  Zg P n ⟨some d, .assign (.tmp t), ty, pos, aft, g⟩ nid st [t] [(d, .c dd)] := by
 intro X st' hs hX f a w hn hrep K Q hK
 exact Zef (P := P) (ty := ty) (pos := pos) (aft := aft) (g := g) h hd X st' hs hX f a w hn hrep K Q hK
theorem Ziv {d t id : Nat} {sz : Nat} {cs : List D} {ty pos aft g} (h : st t = .own id (.sl true sz cs)) (hd : n d = true) :
  Zg P n ⟨some d, .move (.tmp t), ty, pos, aft, g⟩ nid st [t] [(d, .als t id [])] := by
 intro X st' hs hX f a w hn hrep K Q hK
 obtain ⟨ρ, L, hr⟩ := hrep
 subst hn
 have ht : st' t = _ := (hs t (by simp)).trans h
 have hv := hr.slots t
 have hi := hr.ids t
 rw [ht] at hv hi
 refine wV_ (u := tmp a t) (w' := w) rfl (hK _ _ ⟨ρ, _, (hr.put_light d hd (.als t id []) (tmp a t) w (Zy.refl w) ?_ (by simpa [AV.ids] using hi)).weaken (fun i hi => .inl hi)⟩)
 simp only [SR, RD] at hv ⊢
 exact ⟨trivial, hv.1⟩
theorem Zkt {d t id : Nat} {cs : List D} {ty pos aft g} (h : st t = .own id (.pt true cs)) (hd : n d = true) :
  Zg P n ⟨some d, .move (.tmp t), ty, pos, aft, g⟩ nid st [t] [(d, .ptr t id [] 0)] := by
 intro X st' hs hX f a w hn hrep K Q hK
 obtain ⟨ρ, L, hr⟩ := hrep
 subst hn
 have ht : st' t = _ := (hs t (by simp)).trans h
 have hv := hr.slots t
 have hi := hr.ids t
 rw [ht] at hv hi
 refine wV_ (u := tmp a t) (w' := w) rfl (hK _ _ ⟨ρ, _, (hr.put_light d hd (.ptr t id [] 0) (tmp a t) w (Zy.refl w) ?_ (by simpa [AV.ids] using hi)).weaken (fun i hi => .inl hi)⟩)
 simp only [SR, RD] at hv ⊢
 obtain ⟨e, g, us, L1, _, e2, _⟩ := hv
 refine ⟨trivial, ⟨g, 0, none⟩, ?_, ?_⟩
 ·rw [<- e, e2]; rfl
 ·rw [e2]; rfl
def AV.light : AV -> Bool
 | .c _ | .als .. | .sub .. | .ptr .. | .sptr .. => true
 | _ => false
theorem SR.light {F : Nat -> Prop} {w : World} {ρ : Nat -> Rho} {a : AV} {v : Value} {L : List Nat} (h : SR F w ρ a v L) (hl : a.light = true) : SR F w ρ a v [] := by
 cases a <;> simp [AV.light] at hl <;> simp only [SR] at h ⊢ <;> exact ⟨trivial, h.2⟩
theorem Zjd {o : Oper} {d t : Nat} {av : AV} (hop : o.op = .move (.tmp t) \/ o.op = .assign (.tmp t)) (hdst : o.dst = some d) (h : st t = av) (hl : av.light = true) (hd : n d = true) :
  Zg P n o nid st [t] [(d, av)] := by
 intro X st' hs hX f a w hn hrep K Q hK
 obtain ⟨ρ, L, hr⟩ := hrep
 subst hn
 have ht : st' t = av := (hs t (by simp)).trans h
 have hv := hr.slots t
 have hi := hr.ids t
 rw [ht] at hv hi
 refine wV_ (u := tmp a t) (w' := w) ?_ (hK _ _ ⟨ρ, fun t => if t = d then [] else L t, ?_⟩)
 ·rcases hop with e | e <;> simp only [execOp, e] <;> rfl
 ·rw [hdst]
  exact (hr.put_light d hd av (tmp a t) w (Zy.refl w) (hv.light hl) hi).weaken (fun i hi => .inl hi)
theorem Y7 {d t : Nat} {av : AV} {ty pos aft g} (h : st t = av) (hl : av.light = true) (hd : n d = true) :
  Zg P n ⟨some d, .move (.tmp t), ty, pos, aft, g⟩ nid st [t] [(d, av)] := Zjd (.inl rfl) rfl h hl hd
theorem Yg {d t : Nat} {av : AV} {ty pos aft g} (h : st t = av) (hl : av.light = true) (hd : n d = true) :
  Zg P n ⟨some d, .assign (.tmp t), ty, pos, aft, g⟩ nid st [t] [(d, av)] := Zjd (.inr rfl) rfl h hl hd
theorem Zev {d t id : Nat} {dd : D} {ty pos aft g} (h : st t = .own id dd) (hd : n d = true) (hdt : d ≠ t) :
  Zg P n ⟨some d, .assign (.tmp t), ty, pos, aft, g⟩ nid st [t] [(t, .dead), (d, .own nid dd)] := by
 intro X st' hs hX f a w hn hrep K Q hK
 obtain ⟨ρ, L, hr⟩ := hrep
 subst hn
 have ht : st' t = _ := (hs t (by simp)).trans h
 have hv := hr.slots t
 rw [ht] at hv
 simp only [SR] at hv
 refine wV_ (u := tmp a t) (w' := w) rfl (hK _ _ ⟨fun i => if i = nid then ρ id else ρ i, fun s => if s = d then L t else if s = t then [] else L s, ?_⟩)
 refine hr.step (fun s => s = d \/ s = t) [] _ _ _ w _ _ (X4 _ _ _) (X7 _ _ _) (Yj _ hd) (Zy.refl w) (by simp) (fun i hi => by rw [if_neg (by rintro rfl; exact hX hi)])
  (fun s hs' => ?_) (fun s hs' => ?_) (fun s u hs' hu hne g hg hgu => ?_) (fun _ h => .inl h) (fun s hs' i hi => ?_)
 ·have h1 : s ≠ d := fun e => hs' (.inl e)
  have h2 : s ≠ t := fun e => hs' (.inr e)
  exact ⟨by simp [Zn, put, h1, h2], Zm _ _ _ _ h1, by simp [h1, h2]⟩
 ·rcases hs' with rfl | rfl
  ·simp only [Zn, Zo, Z9 _ _ _ (hr.size _ hd), if_true, SR]
   exact ⟨hv, hr.nodup t, fun g hg => ⟨(hr.bound t g hg).1, .inl ⟨t, .inr rfl, hg⟩⟩⟩
  ·simp only [Zn, Zi _ _ _ _ hdt.symm, Zo, if_neg hdt.symm, if_true, SR]
   exact ⟨trivial, List.nodup_nil, fun g hg => by simp at hg⟩
 ·rcases hs' with rfl | rfl <;> rcases hu with rfl | rfl
  ·exact hne rfl
  ·simp [hdt.symm] at hgu
  ·simp [hdt.symm] at hg
  ·exact hne rfl
 ·rcases hs' with rfl | rfl
  ·simp only [Zn, Zo, AV.ids, List.mem_singleton] at hi; exact .inr hi
  ·simp [Zn, Zi _ _ _ _ hdt.symm, Zo, AV.ids] at hi
end
end Go.Pv
namespace Go.Pv
open Go.RowKit
class Zu (P : Program) (T : TypeId) (sz : outParam Nat) : Prop where
 out : ∃ e i z, P.underlying T = some (.slice e) /\ P.info? e = some i /\ i.size = sz /\ 0 < sz /\ sz <= 16 /\ i.bytes <= 128 /\ i.zero = some z /\ z.cells.size = sz
class X6 (P : Program) (T : TypeId) : Prop where
 out : ∃ d i, P.underlying T = some d /\ (match d with | .struct _ | .array _ _ => false | _ => true) = true /\ P.info? T = some i /\ i.size = 1
class X8 (P : Program) (T : TypeId) (sz : outParam Nat) : Prop where
 out : ∃ fs i, P.underlying T = some (.struct fs) /\ P.info? T = some i /\ i.size = sz
def Rho.shift (ρ : Rho) (i : Nat) : Rho := fun π => match π with
 | [] => ρ []
 | j :: q => ρ ((j + i) :: q)
section
variable {F : Nat -> Prop} {w : World}
theorem RDs.shift : ∀ (ds : List D) (k i : Nat) (ρ : Rho) (us : List Value) (L : List Nat), RDs F w ds (k + i) ρ us L -> RDs F w ds k (ρ.shift i) us L
 | [], _, _, _, _, _, h => by simpa only [RDs] using h
 | d :: ds, k, i, ρ, us, L, h => by
  simp only [RDs] at h ⊢
  obtain ⟨u, us', L1, L2, rfl, rfl, h1, h2⟩ := h
  exact ⟨u, us', L1, L2, rfl, rfl, h1, RDs.shift ds (k + 1) i ρ us' L2 (by rw [show k + 1 + i = k + i + 1 from by omega]; exact h2)⟩
theorem RDs.unshift : ∀ (ds : List D) (k i : Nat) (ρ : Rho) (us : List Value) (L : List Nat), RDs F w ds k ρ us L -> RDs F w ds (k + i) (fun π => match π with | [] => ρ [] | j :: q => ρ ((j - i) :: q)) us L
 | [], _, _, _, _, _, h => by simpa only [RDs] using h
 | d :: ds, k, i, ρ, us, L, h => by
  simp only [RDs] at h ⊢
  obtain ⟨u, us', L1, L2, rfl, rfl, h1, h2⟩ := h
  refine ⟨u, us', L1, L2, rfl, rfl, ?_, ?_⟩
  ·refine RD.rho d (ρ.at k) _ u L1 h1 (fun π => ?_)
   simp [Rho.at]
  ·have := RDs.unshift ds (k + 1) i ρ us' L2 h2
   rw [show k + 1 + i = k + i + 1 from by omega] at this
   exact this
theorem RDs.append : ∀ (ds es : List D) (k : Nat) (ρ : Rho) (us vs : List Value) (L M : List Nat), RDs F w ds k ρ us L -> RDs F w es (k + ds.length) ρ vs M -> RDs F w (ds ++ es) k ρ (us ++ vs) (L ++ M)
 | [], es, k, ρ, us, vs, L, M, h, h' => by
  simp only [RDs] at h
  obtain ⟨rfl, rfl⟩ := h
  simpa using h'
 | d :: ds, es, k, ρ, us, vs, L, M, h, h' => by
  simp only [RDs, List.cons_append] at h ⊢
  obtain ⟨u, us', L1, L2, rfl, rfl, h1, h2⟩ := h
  refine ⟨u, us' ++ vs, L1, L2 ++ M, by simp, by simp, h1, RDs.append ds es (k + 1) ρ us' vs L2 M h2 ?_⟩
  rw [show k + 1 + ds.length = k + (d :: ds).length from by simp; omega]
  exact h'
theorem RDs.rest : ∀ (i : Nat) (ds : List D) (k : Nat) (ρ : Rho) (us : List Value), RDs F w ds k ρ us [] -> RDs F w (ds.drop i) (k + min i ds.length) ρ (us.drop i) []
 | 0, ds, k, ρ, us, h => by simpa using h
 | i + 1, [], k, ρ, us, h => by
  simp only [RDs] at h
  obtain ⟨rfl, _⟩ := h
  simp [RDs]
 | i + 1, d :: ds, k, ρ, us, h => by
  simp only [RDs] at h
  obtain ⟨u, us', L1, L2, rfl, e, h1, h2⟩ := h
  simp only [List.nil_eq, List.append_eq_nil_iff] at e
  obtain ⟨rfl, rfl⟩ := e
  have := RDs.rest i ds (k + 1) ρ us' h2
  simp only [List.drop_succ_cons, List.length_cons]
  rw [show k + min (i + 1) (ds.length + 1) = k + 1 + min i ds.length from by omega]
  exact this
theorem RDs.take : ∀ (i : Nat) (ds : List D) (k : Nat) (ρ : Rho) (us : List Value), RDs F w ds k ρ us [] -> RDs F w (ds.take i) k ρ (us.take i) []
 | 0, ds, k, ρ, us, _ => by simp [RDs]
 | i + 1, [], k, ρ, us, h => by
  simp only [RDs] at h
  obtain ⟨rfl, _⟩ := h
  simp [RDs]
 | i + 1, d :: ds, k, ρ, us, h => by
  simp only [RDs] at h
  obtain ⟨u, us', L1, L2, rfl, e, h1, h2⟩ := h
  simp only [List.nil_eq, List.append_eq_nil_iff] at e
  obtain ⟨rfl, rfl⟩ := e
  simp only [List.take_succ_cons, RDs]
  exact ⟨u, us'.take i, [], [], rfl, rfl, h1, RDs.take i ds (k + 1) ρ us' h2⟩
theorem RDs.cut (i m : Nat) (ds : List D) (k : Nat) (ρ : Rho) (us : List Value) (h : RDs F w ds k ρ us []) : ∃ ρ', RDs F w ((ds.drop i).take m) 0 ρ' ((us.drop i).take m) [] := by
 have h1 := RDs.take m _ _ _ _ (RDs.rest i ds k ρ us h)
 have h2 := RDs.shift _ 0 (k + min i ds.length) _ _ _ (by simpa using h1)
 exact ⟨_, h2⟩
theorem Ui.cut {v : Value} {sz : Nat} {us : List Value} {a : Option Addr} {n c lo m : Nat} {a1 : Option Addr} {c1 : Nat} (h : Ui F w v sz us) (hv : v = .slice a n c) (hb : lo + m <= n) (hmc : m <= c1) (hc : c1 <= maxLen) (ha : m ≠ 0 -> a1 = a.map (·.add (lo * sz))) :
  Ui F w (.slice a1 m c1) sz ((us.drop (lo * sz)).take (m * sz)) := by
 obtain ⟨a', n', c', e, h1, h2, h3, h4⟩ := h
 rw [hv] at e
 simp only [Value.slice.injEq] at e
 obtain ⟨rfl, rfl, rfl⟩ := e
 have hle : lo * sz + m * sz <= n * sz := by rw [<- Nat.add_mul]; exact Nat.mul_le_mul_right _ hb
 refine ⟨a1, m, c1, rfl, ?_, hmc, hc, fun hne => ?_⟩
 ·rw [List.length_take, List.length_drop]; omega
 ·have hm0 : m ≠ 0 := by
   rintro rfl
   simp at hne
  have hus : us ≠ [] := by
   rintro rfl
   simp at hne
  obtain ⟨b, rfl, hb1, hb2⟩ := h4 hus
  refine ⟨b.add (lo * sz), by rw [ha hm0]; rfl, by rw [Q4]; exact hb1, fun j u hu => ?_⟩
  rw [List.getElem?_take] at hu
  split at hu
  ·rw [List.getElem?_drop] at hu
   have := hb2 _ u hu
   rw [<- this]
   congr 1
   unfold Addr.add
   by_cases e1 : lo * sz = 0 <;> by_cases e2 : j = 0 <;> simp [e1, e2]
   omega
  ·cases hu
end
inductive U3 (st : Nat -> AV) : Operand -> List Nat -> Nat -> List D -> Prop
 | sh {t sz cs} : st t = .c (.sl false sz cs) -> U3 st (.tmp t) [t] sz cs
 | root {t id sz cs} : st t = .own id (.sl true sz cs) -> U3 st (.tmp t) [t] sz cs
 | als {t x id path d sz cs} : st t = .als x id path -> st x = .own id d -> d.nav path = some (.sl true sz cs) -> U3 st (.tmp t) [t, x] sz cs
 | sub {t x id path d sz lo n cs} : st t = .sub x id path sz lo n -> st x = .own id d -> d.nav path = some (.sl true sz cs) -> U3 st (.tmp t) [t, x] sz ((cs.drop (lo * sz)).take (n * sz))
 | nil {sz} : U3 st (.const (.slice none 0 0)) [] sz []
section
variable {P : Program} {n : NN} {nid : Nat} {st : Nat -> AV} {f : Fr} {X : Nat -> Prop} {a : Act} {w : World} {ρ : Nat -> Rho} {L : Nat -> List Nat}
theorem U3.agree {st st' : Nat -> AV} {x : Operand} {rd : List Nat} {sz : Nat} {cs : List D} (h : U3 st x rd sz cs) (hs : ∀ s ∈ rd, st' s = st s) : U3 st' x rd sz cs := by
 cases h with
 | sh h => exact .sh ((hs _ (by simp)).trans h)
 | root h => exact .root ((hs _ (by simp)).trans h)
 | als h1 h2 h3 => exact .als ((hs _ (by simp)).trans h1) ((hs _ (by simp)).trans h2) h3
 | sub h1 h2 h3 => exact .sub ((hs _ (by simp)).trans h1) ((hs _ (by simp)).trans h2) h3
 | nil => exact .nil
theorem Ve.part (h : Ve f X st a w ρ L) {x id : Nat} {d d1 : D} {path : List Nat} (hx : st x = .own id d) (hn : d.nav path = some d1) :
  ∃ v1 A L1 B, L x = A ++ (L1 ++ B) /\ RD f.F w d1 ((ρ id).sub path) v1 L1 /\
   ∀ (w' : World) (d1' : D) (ρ1' : Rho) (L1' : List Nat), (∀ g, f.F g -> Vh w w' g) -> (∀ g, g ∈ A \/ g ∈ B -> Vh w w' g) -> RD f.F w' d1' ρ1' v1 L1' ->
    RD f.F w' (d.put path d1') ((ρ id).set path ρ1') (tmp a x) (A ++ (L1' ++ B)) := by
 have hv := h.slots x
 rw [hx] at hv
 simp only [SR] at hv
 exact RD.focus path d (ρ id) (tmp a x) (L x) hv d1 hn
theorem Rho.sub_nil (ρ : Rho) (path : List Nat) : ρ.sub path [] = ρ path := by simp [Rho.sub]
theorem Ve.live_lt (h : Ve f X st a w ρ L) : ∀ g, f.F g -> g < w.heap.size := fun _ hg => h.F_lt hg
theorem Ve.partSl (h : Ve f X st a w ρ L) {x id sz : Nat} {d : D} {cs : List D} {path : List Nat} (hx : st x = .own id d) (hn : d.nav path = some (.sl true sz cs)) :
  ∃ us L0 L1, Row w (ρ id path) sz us L0 /\ RDs f.F w cs 0 ((ρ id).sub path) us L1 /\ (∀ g, g ∈ L0 \/ g ∈ L1 -> g ∈ L x) := by
 obtain ⟨v1, A, L1, B, e, h1, _⟩ := h.part hx hn
 simp only [RD] at h1
 obtain ⟨rfl, us, L0, L2, rfl, h2, h3⟩ := h1
 rw [Rho.sub_nil] at h2
 exact ⟨us, L0, L2, h2, h3, fun g hg => by rw [e]; simp; rcases hg with hg | hg <;> simp [hg]⟩
theorem Row.shRow {v : Value} {sz : Nat} {us : List Value} {L0 : List Nat} (h : Row w v sz us L0) (hL : ∀ g ∈ L0, g < w.heap.size) : Ui (fun g => g < w.heap.size) w v sz us := by
 rcases h with ⟨rfl, rfl, rfl⟩ | ⟨g, o, n, cap, cur, e, h1, h2, h3, h4, h5, h6, h7, rfl⟩
 ·exact ⟨none, 0, 0, rfl, by simp, Nat.le_refl _, Nat.zero_le _, fun h => absurd rfl h⟩
 ·refine ⟨some ⟨g, o, none⟩, n, cap, h1, h3, h4, h5, fun _ => ⟨_, rfl, hL g (by simp), fun j u hu => ?_⟩⟩
  rw [Vn]
  exact Ji h2 h7 hu
theorem U3.read (h : Ve f X st a w ρ L) {x : Operand} {rd : List Nat} {sz : Nat} {cs : List D} (hv : U3 st x rd sz cs) :
  ∃ us r, Ui (fun g => g < w.heap.size) w (a.eval x) sz us /\ RDs (fun g => g < w.heap.size) w (D.erases cs) 0 r us [] := by
 cases hv with
 | @sh t sz cs ht =>
  have := h.slots t
  rw [ht] at this
  simp only [SR, RD] at this
  obtain ⟨_, r, _, us, h1, h2⟩ := this
  exact ⟨us, r, h1.same h.live_lt (fun _ _ => rfl), RDs.erase h.live_lt cs 0 r us [] h2 (by simp)⟩
 | @root t id sz cs ht =>
  obtain ⟨us, L0, L1, h1, h2, h3⟩ := h.partSl (path := []) ht rfl
  have e : a.eval (.tmp t) = ρ id [] := by
   have := h.slots t
   rw [ht] at this
   simp only [SR, RD] at this
   exact this.1
  rw [e]
  exact ⟨us, _, h1.shRow (fun g hg => (h.bound t g (h3 g (.inl hg))).1), RDs.erase h.live_lt cs 0 _ us L1 h2 (fun g hg => (h.bound t g (h3 g (.inr hg))).1)⟩
 | @als t x id path d sz cs ht hx hn =>
  obtain ⟨us, L0, L1, h1, h2, h3⟩ := h.partSl hx hn
  have e : a.eval (.tmp t) = ρ id path := by
   have := h.slots t
   rw [ht] at this
   simp only [SR] at this
   exact this.2
  rw [e]
  exact ⟨us, _, h1.shRow (fun g hg => (h.bound x g (h3 g (.inl hg))).1), RDs.erase h.live_lt cs 0 _ us L1 h2 (fun g hg => (h.bound x g (h3 g (.inr hg))).1)⟩
 | @sub t x id path d sz lo n cs ht hx hn =>
  obtain ⟨us, L0, L1, h1, h2, h3⟩ := h.partSl hx hn
  have := h.slots t
  rw [ht] at this
  simp only [SR] at this
  obtain ⟨_, a0, n0, c0, a1, c1, e1, e2, e3, e4, e5, e6⟩ := this
  have hsh := h1.shRow (fun g hg => (h.bound x g (h3 g (.inl hg))).1)
  have her := RDs.erase (F' := fun g => g < w.heap.size) h.live_lt cs 0 _ us L1 h2 (fun g hg => (h.bound x g (h3 g (.inr hg))).1)
  obtain ⟨r, hr⟩ := RDs.cut (lo * sz) (n * sz) _ _ _ _ her
  refine ⟨_, r, ?_, by rw [D.erases_eq, List.map_take, List.map_drop, <- D.erases_eq]; exact hr⟩
  change Ui _ _ (tmp a t) _ _
  rw [e2]
  exact hsh.cut e1 e3 e4 e5 (fun hne => (e6 hne).2)
 | nil => exact ⟨[], fun _ => undef, ⟨none, 0, 0, rfl, by simp, Nat.le_refl _, Nat.zero_le _, fun h => absurd rfl h⟩, by simp [D.erases, RDs]⟩
theorem Zmh {d : Nat} {x : Operand} {T : TypeId} {sz sz' : Nat} {cs : List D} {rd : List Nat} {ty pos aft g} [Zu P T sz'] (hv : U3 st x rd sz cs) (m : Nat) (hm : cs.length = m * sz) (hsz : 0 < sz) (hd : n d = true) :
  Zg P n ⟨some d, .call ⟨.builtin .len, #[x], #[T]⟩, ty, pos, aft, g⟩ nid st rd [(d, .c (.lit (.int .i64 m)))] := by
 intro X st' hs hX f a w hn hrep K Q hK
 obtain ⟨ρ, L, h⟩ := hrep
 subst hn
 obtain ⟨us, r, ⟨a0, n0, c0, e0, h1, h2, h3, _⟩, h5⟩ := (hv.agree hs).read h
 obtain ⟨e, i, z, t1, _⟩ := (Zu.out (P := P) (T := T) (sz := sz'))
 have hl := h5.length
 rw [D.erases_eq, List.length_map, <- h1, hm] at hl
 have en : n0 = m := Nat.eq_of_mul_eq_mul_right hsz hl
 subst en
 refine wV_ (u := .int .i64 n0) (w' := w) ?_ (h.done_lit hK hd rfl)
 simp [execOp, resolve, invoke, builtin, e0, Builtin.len_, run_underlying t1, goInt]
theorem Q5 {T : TypeId} {sz : Nat} [ht : Zu P T sz] (w : World) (b : Addr) (len cap : Nat) (k : IntKind) (m : Nat) (hm : m < len) :
  (Instr.indexAt T (.slice (some b) len cap) (.int k (m : Int))).run P w = .ok (.pointer (some (b.add (m * sz)))) w := by
 obtain ⟨e, i, z, t1, t2, t3, _⟩ := ht.out
 have : (m : Int) < (len : Int) := by omega
 simp [Instr.indexAt, run_underlying t1, asIntOf, hm, sizeOf, typeInfo, t2, t3]
theorem Qr (b : Addr) (i j : Nat) : (b.add i).add j = b.add (i + j) := by
 unfold Addr.add
 by_cases e1 : i = 0 <;> by_cases e2 : j = 0 <;> simp [e1, e2]
 omega
theorem Ziw {d t : Nat} {xi : Operand} {T : TypeId} {sz m : Nat} {k : IntKind} {j : Int} {cs : List D} {ty pos aft g} [Zu P T sz] (h : st t = .c (.sl false sz cs)) (hi : Lit st xi (.int k j)) (hj : j = (m : Int)) (hm : m * sz + sz <= cs.length) (hd : n d = true) :
  Zg P n ⟨some d, .indexAddr T (.tmp t) xi, ty, pos, aft, g⟩ nid st (t :: Z5 xi) [(d, .sptr cs (m * sz))] := by
 intro X st' hs hX f a w hn hrep K Q hK
 obtain ⟨ρ, L, hr⟩ := hrep
 subst hn
 have ht := hr.slots t
 rw [(hs t (by simp)).trans h] at ht
 simp only [SR, RD] at ht
 obtain ⟨_, r, _, us, ⟨a0, n0, c0, e0, h1, h2, h3, h4⟩, h5⟩ := ht
 have ei := Lit.eval hr (hi.agree fun s hs' => hs s q9)
 obtain ⟨e, i, z, t1, t2, t3, t4, _⟩ := (Zu.out (P := P) (T := T) (sz := sz))
 have hl := h5.length
 have hne : us ≠ [] := by rintro rfl; simp at hl; omega
 obtain ⟨b, rfl, hb, hc⟩ := h4 hne
 have hlt : m < n0 := by
  have : (m + 1) * sz <= n0 * sz := by rw [Nat.add_mul]; omega
  have := Nat.le_of_mul_le_mul_right this t4
  omega
 refine wV_ (u := .pointer (some (b.add (m * sz)))) (w' := w) ?_ (hr.done_light hK hd _ w (Zy.refl w) ?_ u3)
 ·have e1 : a.eval (.tmp t) = _ := e0
  simp only [execOp, e1, ei, hj, Sem.run_bind, Q5 w b n0 c0 k m hlt, Result.andThen_ok, Sem.run_pure]
 ·simp only [SR]
  exact ⟨trivial, b, us, r, rfl, hb, hc, h5⟩
theorem Wo {v : Value} {sz : Nat} {us : List Value} {L0 : List Nat} (h : Row w v sz us L0) (hne : us ≠ []) :
  ∃ g o n cap, v = .slice (some ⟨g, o, none⟩) n cap /\ n * sz = us.length /\ Js v = some ⟨g, o, none⟩ /\ L0 = [g] /\ (∀ (j : Nat) (u : Value), us[j]? = some u -> w.cell? ⟨g, o + j, none⟩ = some u) /\ ∀ j, w.frozen? ⟨g, j, none⟩ = false := by
 rcases h with ⟨_, rfl, _⟩ | ⟨g, o, n, cap, cur, e, rfl, h2, h3, h4, h5, h6, h7, rfl⟩
 ·exact absurd rfl hne
 ·refine ⟨g, o, n, cap, rfl, h3, rfl, rfl, fun j u hu => Ji h2 h7 hu, fun j => ?_⟩
  simp [World.frozen?, h2]
theorem Zgf {d t x id : Nat} {path : List Nat} {dd : D} {xi : Operand} {T : TypeId} {sz m : Nat} {k : IntKind} {j : Int} {cs : List D} {ty pos aft g} [Zu P T sz] (h : st t = .als x id path) (hx : st x = .own id dd) (hn' : dd.nav path = some (.sl true sz cs))
  (hi : Lit st xi (.int k j)) (hj : j = (m : Int)) (hm : m * sz + sz <= cs.length) (hd : n d = true) :
  Zg P n ⟨some d, .indexAddr T (.tmp t) xi, ty, pos, aft, g⟩ nid st (t :: x :: Z5 xi) [(d, .ptr x id path (m * sz))] := by
 intro X st' hs hX f a w hn hrep K Q hK
 obtain ⟨ρ, L, hr⟩ := hrep
 subst hn
 have ht := hr.slots t
 have hids := hr.ids t
 rw [(hs t (by simp)).trans h] at ht hids
 simp only [SR] at ht
 obtain ⟨us, L0, L1, h1, h5, h6⟩ := hr.partSl ((hs x (by simp)).trans hx) hn'
 have ei := Lit.eval hr (hi.agree fun s hs' => hs s q9)
 obtain ⟨e, i, z, t1, t2, t3, t4, _⟩ := (Zu.out (P := P) (T := T) (sz := sz))
 have hl := h5.length
 have hne : us ≠ [] := by rintro rfl; simp at hl; omega
 obtain ⟨g0, o0, n0, c0, e0, h7, h8, _⟩ := Wo h1 hne
 have hlt : m < n0 := by
  have : (m + 1) * sz <= n0 * sz := by rw [Nat.add_mul]; omega
  have := Nat.le_of_mul_le_mul_right this t4
  omega
 refine wV_ (u := .pointer (some ((⟨g0, o0, none⟩ : Addr).add (m * sz)))) (w' := w) ?_ (hr.done_light hK hd _ w (Zy.refl w) ?_ w8)
 ·have e1 : a.eval (.tmp t) = _ := ht.2.trans e0
  simp only [execOp, e1, ei, hj, Sem.run_bind, Q5 w _ n0 c0 k m hlt, Result.andThen_ok, Sem.run_pure]
 ·simp only [SR]
  exact ⟨trivial, _, h8, rfl⟩
theorem Zew {d t id : Nat} {xi : Operand} {T : TypeId} {sz m : Nat} {k : IntKind} {j : Int} {cs : List D} {ty pos aft g} [Zu P T sz] (h : st t = .own id (.sl true sz cs))
  (hi : Lit st xi (.int k j)) (hj : j = (m : Int)) (hm : m * sz + sz <= cs.length) (hd : n d = true) :
  Zg P n ⟨some d, .indexAddr T (.tmp t) xi, ty, pos, aft, g⟩ nid st (t :: Z5 xi) [(d, .ptr t id [] (m * sz))] := by
 intro X st' hs hX f a w hn hrep K Q hK
 obtain ⟨ρ, L, hr⟩ := hrep
 subst hn
 have ht := hr.slots t
 have hids := hr.ids t
 have hst := (hs t (by simp)).trans h
 rw [hst] at ht hids
 simp only [SR, RD] at ht
 obtain ⟨us, L0, L1, h1, h5, h6⟩ := hr.partSl (path := []) hst rfl
 have ei := Lit.eval hr (hi.agree fun s hs' => hs s q9)
 obtain ⟨e, i, z, t1, t2, t3, t4, _⟩ := (Zu.out (P := P) (T := T) (sz := sz))
 have hl := h5.length
 have hne : us ≠ [] := by rintro rfl; simp at hl; omega
 obtain ⟨g0, o0, n0, c0, e0, h7, h8, _⟩ := Wo h1 hne
 have hlt : m < n0 := by
  have : (m + 1) * sz <= n0 * sz := by rw [Nat.add_mul]; omega
  have := Nat.le_of_mul_le_mul_right this t4
  omega
 refine wV_ (u := .pointer (some ((⟨g0, o0, none⟩ : Addr).add (m * sz)))) (w' := w) ?_ (hr.done_light hK hd _ w (Zy.refl w) ?_ w8)
 ·have e1 : a.eval (.tmp t) = _ := ht.1.trans e0
  simp only [execOp, e1, ei, hj, Sem.run_bind, Q5 w _ n0 c0 k m hlt, Result.andThen_ok, Sem.run_pure]
 ·simp only [SR]
  exact ⟨trivial, _, h8, rfl⟩
theorem Zgg {d t x id : Nat} {path : List Nat} {dd : D} {xi : Operand} {T : TypeId} {sz m lo nn : Nat} {k : IntKind} {j : Int} {cs : List D} {ty pos aft g} [Zu P T sz] (h : st t = .sub x id path sz lo nn) (hx : st x = .own id dd) (hn' : dd.nav path = some (.sl true sz cs))
  (hi : Lit st xi (.int k j)) (hj : j = (m : Int)) (hm : m < nn) (hd : n d = true) :
  Zg P n ⟨some d, .indexAddr T (.tmp t) xi, ty, pos, aft, g⟩ nid st (t :: x :: Z5 xi) [(d, .ptr x id path ((lo + m) * sz))] := by
 intro X st' hs hX f a w hn hrep K Q hK
 obtain ⟨ρ, L, hr⟩ := hrep
 subst hn
 have ht := hr.slots t
 have hids := hr.ids t
 rw [(hs t (by simp)).trans h] at ht hids
 simp only [SR] at ht
 obtain ⟨_, a0, n0, c0, a1, c1, f1, f2, f3, f4, f5, f6⟩ := ht
 obtain ⟨us, L0, L1, h1, h5, h6⟩ := hr.partSl ((hs x (by simp)).trans hx) hn'
 have ei := Lit.eval hr (hi.agree fun s hs' => hs s q9)
 obtain ⟨e, i, z, t1, t2, t3, t4, _⟩ := (Zu.out (P := P) (T := T) (sz := sz))
 have hne : us ≠ [] := by
  rintro rfl
  rcases h1 with ⟨e1, _⟩ | ⟨g, o, n1, cap, cur, e, e1, _, e3, _⟩
  ·rw [e1] at f1; simp at f1; omega
  ·rw [e1] at f1
   simp only [Value.slice.injEq] at f1
   have : n1 = 0 := by
    rcases Nat.mul_eq_zero.1 (by simpa using e3) with h | h <;> omega
   omega
 obtain ⟨g0, o0, n1, cp, e0, h7, h8, _⟩ := Wo h1 hne
 rw [e0] at f1
 simp only [Value.slice.injEq] at f1
 obtain ⟨rfl, rfl, rfl⟩ := f1
 have f7 := (f6 j2).2
 simp only [Option.map_some] at f7
 refine wV_ (u := .pointer (some ((⟨g0, o0, none⟩ : Addr).add ((lo + m) * sz)))) (w' := w) ?_ (hr.done_light hK hd _ w (Zy.refl w) ?_ w8)
 ·have e1 : a.eval (.tmp t) = _ := f2
  rw [f7] at e1
  simp only [execOp, e1, ei, hj, Sem.run_bind, Q5 w _ nn c1 k m hm, Result.andThen_ok, Sem.run_pure, Qr, <- Nat.add_mul]
 ·simp only [SR]
  exact ⟨trivial, _, h8, rfl⟩
theorem Zbk {d t x id : Nat} {path : List Nat} {xi : Operand} {T : TypeId} {sz m lo nn : Nat} {k : IntKind} {j : Int} {ty pos aft g} [Zu P T sz] (h : st t = .sub x id path sz lo nn)
  (hi : Lit st xi (.int k j)) (hj : j = (m : Int)) (hm : m < nn) (hd : n d = true) :
  Zg P n ⟨some d, .indexAddr T (.tmp t) xi, ty, pos, aft, g⟩ nid st (t :: Z5 xi) [(d, .ptr x id path ((lo + m) * sz))] := by
 intro X st' hs hX f a w hn hrep K Q hK
 obtain ⟨ρ, L, hr⟩ := hrep
 subst hn
 have ht := hr.slots t
 have hids := hr.ids t
 rw [(hs t (by simp)).trans h] at ht hids
 simp only [SR] at ht
 obtain ⟨_, a0, n0, c0, a1, c1, f1, f2, f3, f4, f5, f6⟩ := ht
 have ei := Lit.eval hr (hi.agree fun s hs' => hs s q9)
 obtain ⟨f7, f8⟩ := f6 j2
 obtain ⟨b, rfl⟩ := Option.isSome_iff_exists.1 f7
 simp only [Option.map_some] at f8
 refine wV_ (u := .pointer (some (b.add ((lo + m) * sz)))) (w' := w) ?_ (hr.done_light hK hd _ w (Zy.refl w) ?_ w8)
 ·have e1 : a.eval (.tmp t) = _ := f2
  rw [f8] at e1
  simp only [execOp, e1, ei, hj, Sem.run_bind, Q5 w _ nn c1 k m hm, Result.andThen_ok, Sem.run_pure, Qr, <- Nat.add_mul]
 ·simp only [SR]
  exact ⟨trivial, b, by rw [f1]; rfl, rfl⟩
end
end Go.Pv
namespace Go.Pv
open Go.RowKit
def V9 (x id : Nat) (p : List Nat) : D -> AV
 | .lit v => .c (.lit v)
 | .sl true _ _ => .als x id p
 | .pt true _ => .ptr x id p 0
 | .hole => .dead
 | d => .c d
def Jd (x id : Nat) (path : List Nat) : Nat -> List D -> List AV
 | _, [] => []
 | k, d :: ds => V9 x id (path ++ [k]) d :: Jd x id path (k + 1) ds
section
variable {P : Program} {n : NN} {nid : Nat} {st : Nat -> AV} {f : Fr} {X : Nat -> Prop} {a : Act} {w : World} {ρ : Nat -> Rho} {L : Nat -> List Nat}
theorem Ys {T : TypeId} [ht : X6 P T] (w : World) (b : Addr) (v : Value) (h : w.cell? b = some v) : (Instr.loadAt T (.pointer (some b))).run P w = .ok v w := by
 obtain ⟨d, i, t1, t2, t3, t4⟩ := ht.out
 cases d <;> simp at t2 <;> simp [Instr.loadAt, Instr.sureAddr, loadVar, isAgg, run_underlying t1, h]
theorem Y8 {T : TypeId} {sz : Nat} [ht : X8 P T sz] (w : World) (b : Addr) (vs : List Value) (hl : vs.length = sz) (h : ∀ j v, vs[j]? = some v -> w.cell? (b.add j) = some v) :
  (Instr.loadAt T (.pointer (some b))).run P w = .ok (.agg vs.toArray) w := by
 obtain ⟨fs, i, t1, t2, t3⟩ := ht.out
 have := run_loadCells_list (P := P) w b vs h
 rw [hl] at this
 simp [Instr.loadAt, Instr.sureAddr, loadVar, isAgg, run_underlying t1, sizeOf, typeInfo, t2, t3, this]
theorem Vi (b : Addr) : b.add 0 = b := by simp [Addr.add]
theorem Zmi (g j : Nat) : (⟨g, 0, none⟩ : Addr).add j = ⟨g, j, none⟩ := by unfold Addr.add; split <;> simp_all
theorem Wp {d t off : Nat} {T : TypeId} {cs : List D} {c : D} {ty pos aft g} [X6 P T] (h : st t = .sptr cs off) (hc : cs[off]? = some c) (hd : n d = true) :
  Zg P n ⟨some d, .load T (.tmp t), ty, pos, aft, g⟩ nid st [t] [(d, .c c)] := by
 intro X st' hs hX f a w hn hrep K Q hK
 obtain ⟨ρ, L, hr⟩ := hrep
 subst hn
 have ht := hr.slots t
 rw [(hs t (by simp)).trans h] at ht
 simp only [SR] at ht
 obtain ⟨_, b, us, r, e0, hb, hcell, h5⟩ := ht
 obtain ⟨u, A, L1, B, hu, e, h6, _⟩ := RDs.at cs 0 r us [] h5 off c hc
 have e' := e.symm
 simp only [List.append_eq_nil_iff] at e'
 obtain ⟨rfl, rfl, rfl⟩ := e'
 refine wV_ (u := u) (w' := w) ?_ (hr.done_light hK hd _ w (Zy.refl w) (by simp only [SR]; exact ⟨trivial, _, h6⟩) u3)
 have e1 : a.eval (.tmp t) = _ := e0
 simp only [execOp, e1, Sem.run_bind, Ys w _ u (hcell off u hu), Result.andThen_ok, Sem.run_pure]
theorem Zaz {F : Nat -> Prop} {w : World} {ρ : Nat -> Rho} : ∀ (ds : List D) (k : Nat) (r : Rho) (us : List Value), RDs F w ds k r us [] -> SRs F w ρ (ds.map AV.c) us []
 | [], _, _, _, h => by simpa only [RDs, SRs, List.map_nil] using h
 | d :: ds, k, r, us, h => by
  simp only [RDs] at h
  obtain ⟨u, us', L1, L2, rfl, e, h1, h2⟩ := h
  simp only [List.nil_eq, List.append_eq_nil_iff] at e
  obtain ⟨rfl, rfl⟩ := e
  simp only [List.map_cons, SRs]
  exact ⟨u, us', [], [], rfl, rfl, by simp only [SR]; exact ⟨trivial, _, h1⟩, Zaz ds (k + 1) r us' h2⟩
theorem Za0 (l : List D) : AV.idss (l.map AV.c) = [] := by
 induction l with
 | nil => rfl
 | cons d l ih => simp [AV.idss, AV.ids, ih]
theorem Zak {d t off sz : Nat} {T : TypeId} {cs : List D} {ty pos aft g} [X8 P T sz] (h : st t = .sptr cs off) (hc : off + sz <= cs.length) (hd : n d = true) :
  Zg P n ⟨some d, .load T (.tmp t), ty, pos, aft, g⟩ nid st [t] [(d, .agg (((cs.drop off).take sz).map AV.c))] := by
 intro X st' hs hX f a w hn hrep K Q hK
 obtain ⟨ρ, L, hr⟩ := hrep
 subst hn
 have ht := hr.slots t
 rw [(hs t (by simp)).trans h] at ht
 simp only [SR] at ht
 obtain ⟨_, b, us, r, e0, hb, hcell, h5⟩ := ht
 obtain ⟨r', h6⟩ := RDs.cut off sz cs 0 r us h5
 have hl := h5.length
 refine wV_ (u := .agg ((us.drop off).take sz).toArray) (w' := w) ?_ (hr.done_light hK hd _ w (Zy.refl w) (by simp only [SR]; exact ⟨_, rfl, Zaz _ _ _ _ h6⟩) (by simp only [AV.ids, Za0]; simp))
 have e1 : a.eval (.tmp t) = _ := e0
 simp only [execOp, e1, Sem.run_bind]
 rw [Y8 (T := T) w _ ((us.drop off).take sz) (by rw [List.length_take, List.length_drop]; omega) (fun j u hu => ?_)]
 ·rfl
 ·rw [List.getElem?_take] at hu
  split at hu
  ·rw [List.getElem?_drop] at hu
   rw [Qr]
   exact hcell _ u hu
  ·cases hu
theorem Ve.partKids (h : Ve f X st a w ρ L) {x id : Nat} {d d1 : D} {cs : List D} {path : List Nat} (hx : st x = .own id d) (hn : d.nav path = some d1) (hk : d1.kids = some cs) (hne : cs ≠ []) :
  ∃ g o us L1, Js (ρ id path) = some ⟨g, o, none⟩ /\ g ∈ L x /\ (∀ g' ∈ L1, g' ∈ L x) /\ RDs f.F w cs 0 ((ρ id).sub path) us L1 /\ (∀ (j : Nat) (u : Value), us[j]? = some u -> w.cell? ⟨g, o + j, none⟩ = some u) /\ (∀ j, w.frozen? ⟨g, j, none⟩ = false) := by
 obtain ⟨v1, A, L1, B, e, h1, _⟩ := h.part hx hn
 have hsub : ∀ g', g' ∈ L1 -> g' ∈ L x := fun g' hg => by rw [e]; simp [hg]
 cases d1 with
 | lit v => simp [D.kids] at hk
 | hole => simp [D.kids] at hk
 | fn g cs => simp [D.kids] at hk
 | sl own sz cs' =>
  cases own
  ·simp [D.kids] at hk
  ·simp only [D.kids, Option.some.injEq] at hk
   subst hk
   simp only [RD] at h1
   obtain ⟨rfl, us, L0, L2, rfl, h2, h3⟩ := h1
   rw [Rho.sub_nil] at h2
   have hus : us ≠ [] := by
    rintro rfl
    exact hne (List.eq_nil_of_length_eq_zero (by simpa using h3.length.symm))
   obtain ⟨g, o, n0, cap, e1, e2, e3, rfl, e5, e6⟩ := Wo h2 hus
   exact ⟨g, o, us, L2, e3, hsub g (by simp), fun g' hg => hsub g' u5, h3, e5, e6⟩
 | pt own cs' =>
  cases own
  ·simp [D.kids] at hk
  ·simp only [D.kids, Option.some.injEq] at hk
   subst hk
   simp only [RD] at h1
   obtain ⟨e0, g, us, L2, ty, rfl, rfl, h2, h3⟩ := h1
   rw [Rho.sub_nil] at e0
   refine ⟨g, 0, us, L2, by rw [<- e0]; rfl, hsub g (by simp), fun g' hg => hsub g' u5, h3, fun j u hu => ?_, fun j => by simp [World.frozen?, h2]⟩
   rw [Nat.zero_add, cell_of_row w g j us.toArray ty (0, 0) h2]
   simpa using hu
theorem Zc0 {F : Nat -> Prop} {w : World} {ρ : Nat -> Rho} {x id : Nat} {p : List Nat} {c : D} {r : Rho} {u : Value} {L1 : List Nat} (h : RD F w c r u L1) (hr : r [] = ρ id p) : SR F w ρ (V9 x id p c) u [] := by
 cases c with
 | lit v => simp only [V9, SR]; simp only [RD] at h; exact ⟨trivial, r, by simp only [RD]; exact ⟨h.1, h.2.1, trivial⟩⟩
 | hole => simp only [V9, SR]
 | fn g cs =>
  simp only [V9, SR]
  simp only [RD] at h
  exact ⟨trivial, r, by simp only [RD]; exact ⟨trivial, h.2⟩⟩
 | sl own sz cs =>
  cases own
  ·simp only [V9, SR]
   simp only [RD] at h
   exact ⟨trivial, r, by simp only [RD]; exact ⟨trivial, h.2⟩⟩
  ·simp only [V9, SR]
   simp only [RD] at h
   exact ⟨trivial, by rw [<- hr]; exact h.1⟩
 | pt own cs =>
  cases own
  ·simp only [V9, SR]
   simp only [RD] at h
   exact ⟨trivial, r, by simp only [RD]; exact ⟨trivial, h.2⟩⟩
  ·simp only [V9, SR]
   simp only [RD] at h
   obtain ⟨e, g, us, L2, ty, e1, _⟩ := h
   exact ⟨trivial, ⟨g, 0, none⟩, by rw [<- hr, <- e, e1]; rfl, by rw [e1]; rfl⟩
theorem Za1 {x id : Nat} {p : List Nat} {c : D} : ∀ i ∈ (V9 x id p c).ids, i = id := by
 cases c with
 | lit v => simp [V9, AV.ids]
 | hole => simp [V9, AV.ids]
 | fn g cs => simp [V9, AV.ids]
 | sl own sz cs => cases own <;> simp [V9, AV.ids]
 | pt own cs => cases own <;> simp [V9, AV.ids]
theorem Q6 {d t x id off : Nat} {path : List Nat} {T : TypeId} {dd d1 : D} {cs : List D} {c : D} {ty pos aft g} [X6 P T] (h : st t = .ptr x id path off) (hx : st x = .own id dd) (hn' : dd.nav path = some d1) (hk : d1.kids = some cs) (hc : cs[off]? = some c) (hd : n d = true) :
  Zg P n ⟨some d, .load T (.tmp t), ty, pos, aft, g⟩ nid st [t, x] [(d, V9 x id (path ++ [off]) c)] := by
 intro X st' hs hX f a w hn hrep K Q hK
 obtain ⟨ρ, L, hr⟩ := hrep
 subst hn
 have ht := hr.slots t
 have hids := hr.ids t
 rw [(hs t (by simp)).trans h] at ht hids
 simp only [SR] at ht
 obtain ⟨_, b, hb, e0⟩ := ht
 obtain ⟨g0, o0, us, L1, hb', hg, hL1, h5, h6, _⟩ := hr.partKids ((hs x (by simp)).trans hx) hn' hk (by rintro rfl; simp at hc)
 rw [hb] at hb'
 simp only [Option.some.injEq] at hb'
 subst hb'
 obtain ⟨u, A, M, B, hu, e, h7, _⟩ := RDs.at cs 0 _ us L1 h5 off c hc
 refine wV_ (u := u) (w' := w) ?_ (hr.done_light hK hd _ w (Zy.refl w) (Zc0 h7 ?_) (fun i hi => ?_))
 ·have e1 : a.eval (.tmp t) = _ := e0
  rw [Vn] at e1
  simp only [execOp, e1, Sem.run_bind, Ys w _ u (h6 off u hu), Result.andThen_ok, Sem.run_pure]
 ·simp [Rho.at, Rho.sub]
 ·rw [Za1 i hi]; exact hids id u3
theorem Zc1 {F : Nat -> Prop} {w : World} {ρ : Nat -> Rho} {x id : Nat} {path : List Nat} : ∀ (ds : List D) (k : Nat) (r : Rho) (us : List Value) (M : List Nat), RDs F w ds k r us M -> (∀ j, r [j] = ρ id (path ++ [j])) -> SRs F w ρ (Jd x id path k ds) us []
 | [], _, _, _, _, h, _ => by simp only [RDs] at h; simp only [Jd, SRs]; exact ⟨h.1, trivial⟩
 | d :: ds, k, r, us, M, h, hr => by
  simp only [RDs] at h
  obtain ⟨u, us', L1, L2, rfl, e, h1, h2⟩ := h
  simp only [Jd, SRs]
  exact ⟨u, us', [], [], rfl, rfl, Zc0 h1 (hr k), Zc1 ds (k + 1) r us' L2 h2 hr⟩
theorem Ko {x id : Nat} {path : List Nat} : ∀ (ds : List D) (k : Nat), ∀ i ∈ AV.idss (Jd x id path k ds), i = id
 | [], k, i, h => by simp [Jd, AV.idss] at h
 | d :: ds, k, i, h => by
  simp only [Jd, AV.idss, List.mem_append] at h
  rcases h with h | h
  ·exact Za1 i h
  ·exact Ko ds (k + 1) i h
theorem RDs.part {F : Nat -> Prop} {w : World} : ∀ (i : Nat) (ds : List D) (k : Nat) (ρ : Rho) (us : List Value) (M : List Nat), RDs F w ds k ρ us M -> i <= ds.length -> ∃ M', RDs F w (ds.drop i) (k + i) ρ (us.drop i) M'
 | 0, ds, k, ρ, us, M, h, _ => ⟨M, by simpa using h⟩
 | i + 1, [], k, ρ, us, M, _, hi => by simp at hi
 | i + 1, d :: ds, k, ρ, us, M, h, hi => by
  simp only [RDs] at h
  obtain ⟨u, us', L1, L2, rfl, e, h1, h2⟩ := h
  obtain ⟨M', h3⟩ := RDs.part i ds (k + 1) ρ us' L2 h2 (by simpa using hi)
  exact ⟨M', by rw [show k + (i + 1) = k + 1 + i from by omega]; simpa using h3⟩
theorem RDs.takeM {F : Nat -> Prop} {w : World} : ∀ (i : Nat) (ds : List D) (k : Nat) (ρ : Rho) (us : List Value) (M : List Nat), RDs F w ds k ρ us M -> ∃ M', RDs F w (ds.take i) k ρ (us.take i) M'
 | 0, ds, k, ρ, us, M, _ => ⟨[], by simp [RDs]⟩
 | i + 1, [], k, ρ, us, M, h => by
  simp only [RDs] at h
  obtain ⟨rfl, _⟩ := h
  exact ⟨[], by simp [RDs]⟩
 | i + 1, d :: ds, k, ρ, us, M, h => by
  simp only [RDs] at h
  obtain ⟨u, us', L1, L2, rfl, e, h1, h2⟩ := h
  obtain ⟨M', h3⟩ := RDs.takeM i ds (k + 1) ρ us' L2 h2
  simp only [List.take_succ_cons, RDs]
  exact ⟨L1 ++ M', u, us'.take i, L1, M', rfl, rfl, h1, h3⟩
theorem Zox {d t x id off sz : Nat} {path : List Nat} {T : TypeId} {dd d1 : D} {cs : List D} {ty pos aft g} [X8 P T sz] (h : st t = .ptr x id path off) (hx : st x = .own id dd) (hn' : dd.nav path = some d1) (hk : d1.kids = some cs) (hc : off + sz <= cs.length) (hz : 0 < sz) (hd : n d = true) :
  Zg P n ⟨some d, .load T (.tmp t), ty, pos, aft, g⟩ nid st [t, x] [(d, .agg (Jd x id path off ((cs.drop off).take sz)))] := by
 intro X st' hs hX f a w hn hrep K Q hK
 obtain ⟨ρ, L, hr⟩ := hrep
 subst hn
 have ht := hr.slots t
 have hids := hr.ids t
 rw [(hs t (by simp)).trans h] at ht hids
 simp only [SR] at ht
 obtain ⟨_, b, hb, e0⟩ := ht
 obtain ⟨g0, o0, us, L1, hb', hg, hL1, h5, h6, _⟩ := hr.partKids ((hs x (by simp)).trans hx) hn' hk (by rintro rfl; simp at hc; omega)
 rw [hb] at hb'
 simp only [Option.some.injEq] at hb'
 subst hb'
 have hl := h5.length
 obtain ⟨M', h7⟩ := RDs.part off cs 0 _ us L1 h5 j2
 obtain ⟨M2, h8⟩ := RDs.takeM sz _ _ _ _ _ h7
 rw [Nat.zero_add] at h8
 refine wV_ (u := .agg ((us.drop off).take sz).toArray) (w' := w) ?_ (hr.done_light hK hd _ w (Zy.refl w) ?_ (fun i hi => ?_))
 ·have e1 : a.eval (.tmp t) = _ := e0
  simp only [execOp, e1, Sem.run_bind]
  rw [Y8 (T := T) w _ ((us.drop off).take sz) (by rw [List.length_take, List.length_drop]; omega) (fun j u hu => ?_)]
  ·rfl
  ·rw [List.getElem?_take] at hu
   split at hu
   ·rw [List.getElem?_drop] at hu
    rw [Qr, Vn]
    exact h6 _ u hu
   ·cases hu
 ·simp only [SR]
  exact ⟨_, rfl, Zc1 _ _ _ _ _ h8 (fun j => by simp [Rho.sub])⟩
 ·simp only [AV.ids] at hi
  rw [Ko _ _ i hi]; exact hids id u3
class Xw (P : Program) (T : TypeId) (k : Nat) (off : outParam Nat) : Prop where
 out : ∃ fs fd i, P.underlying T = some (.struct fs) /\ fs[k]? = some fd /\ fd.offset = off /\ P.info? fd.type = some i /\ i.size ≠ 0
theorem Zc2 {T : TypeId} {k o : Nat} [ht : Xw P T k o] (w : World) (b : Addr) : (Instr.fieldAt T (.pointer (some b)) k).run P w = .ok (.pointer (some (b.add o))) w := by
 obtain ⟨fs, fd, i, t1, t2, t3, t4, t5⟩ := ht.out
 simp [Instr.fieldAt, run_underlying t1, t2, Instr.sureAddr, fieldPlace, sizeOf, typeInfo, t4, t5, t3]
theorem Zoy {d t x id off k o : Nat} {path : List Nat} {T : TypeId} {ty pos aft g} [Xw P T k o] (h : st t = .ptr x id path off) (hd : n d = true) :
  Zg P n ⟨some d, .fieldAddr T (.tmp t) k, ty, pos, aft, g⟩ nid st [t] [(d, .ptr x id path (off + o))] := by
 intro X st' hs hX f a w hn hrep K Q hK
 obtain ⟨ρ, L, hr⟩ := hrep
 subst hn
 have ht := hr.slots t
 have hids := hr.ids t
 rw [(hs t (by simp)).trans h] at ht hids
 simp only [SR] at ht
 obtain ⟨_, b, hb, e0⟩ := ht
 refine wV_ (u := .pointer (some (b.add (off + o)))) (w' := w) ?_ (hr.done_light hK hd _ w (Zy.refl w) (by simp only [SR]; exact ⟨trivial, b, hb, rfl⟩) w8)
 have e1 : a.eval (.tmp t) = _ := e0
 simp only [execOp, e1, Sem.run_bind, Zc2 w, Result.andThen_ok, Sem.run_pure, Qr]
theorem Zex {d t id k o : Nat} {cs : List D} {T : TypeId} {ty pos aft g} [Xw P T k o] (h : st t = .own id (.pt true cs)) (hd : n d = true) :
  Zg P n ⟨some d, .fieldAddr T (.tmp t) k, ty, pos, aft, g⟩ nid st [t] [(d, .ptr t id [] o)] := by
 intro X st' hs hX f a w hn hrep K Q hK
 obtain ⟨ρ, L, hr⟩ := hrep
 subst hn
 have ht := hr.slots t
 have hids := hr.ids t
 rw [(hs t (by simp)).trans h] at ht hids
 simp only [SR, RD] at ht
 obtain ⟨e, g0, us, L1, ty', e0, _⟩ := ht
 refine wV_ (u := .pointer (some ((⟨g0, 0, none⟩ : Addr).add o))) (w' := w) ?_ (hr.done_light hK hd _ w (Zy.refl w) (by simp only [SR]; exact ⟨trivial, ⟨g0, 0, none⟩, by rw [<- e, e0]; rfl, rfl⟩) w8)
 have e1 : a.eval (.tmp t) = _ := e0
 simp only [execOp, e1, Sem.run_bind, Zc2 w, Result.andThen_ok, Sem.run_pure]
theorem Zix {d t off k o : Nat} {cs : List D} {T : TypeId} {ty pos aft g} [Xw P T k o] (h : st t = .sptr cs off) (hd : n d = true) :
  Zg P n ⟨some d, .fieldAddr T (.tmp t) k, ty, pos, aft, g⟩ nid st [t] [(d, .sptr cs (off + o))] := by
 intro X st' hs hX f a w hn hrep K Q hK
 obtain ⟨ρ, L, hr⟩ := hrep
 subst hn
 have ht := hr.slots t
 rw [(hs t (by simp)).trans h] at ht
 simp only [SR] at ht
 obtain ⟨_, b, us, r, e0, h1, h2, h3⟩ := ht
 refine wV_ (u := .pointer (some (b.add (off + o)))) (w' := w) ?_ (hr.done_light hK hd _ w (Zy.refl w) (by simp only [SR]; exact ⟨trivial, b, us, r, rfl, h1, h2, h3⟩) u3)
 have e1 : a.eval (.tmp t) = _ := e0
 simp only [execOp, e1, Sem.run_bind, Zc2 w, Result.andThen_ok, Sem.run_pure, Qr]
end
end Go.Pv
