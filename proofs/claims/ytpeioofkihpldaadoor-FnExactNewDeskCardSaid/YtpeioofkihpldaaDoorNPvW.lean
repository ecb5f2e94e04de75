/- Literals of structures, and of slices of structures; elements that are structures of one cell. No condition. -/
import Derived.Test.YtpeioofkihpldaaDoorNPvN
import Derived.Test.YtpeioofkihpldaaDoorNPvO
import Derived.Laws.Cover3
import Derived.Laws.Tables
set_option linter.unusedVariables false
set_option linter.unusedSimpArgs false
namespace Go.Pv
open Go.RowKit
section
variable {P : Program} {n : NN} {st : Nat → AV} {nx nid : Nat} {dr : Bool} {ops l : List Oper} {pre : List (List Nat × List Nat)} {Q : (Nat → AV) → Nat → Prop}
def RunU (dr : Bool) (P : Program) (n : NN) (ops l : List Oper) (st : Nat → AV) (nx : Nat) (pre : List (List Nat × List Nat)) (Q : (Nat → AV) → Nat → Prop) : Prop :=
 if dr = true then RunD P n ops l st nx pre Q else RunL P n ops.toArray l st nx Q
theorem RunL.more {ops : Array Oper} (h : RunL P n ops l st (nx + 1) Q) : RunL P n ops l st nx Q :=
 fun f a w Q' hn hr hQ => h f a w Q' hn (hr.weaken fun i hi => by omega) hQ
theorem RunU.nilL (h : Q st nx) : RunU false P n ops [] st nx pre Q := RunL.nil h
theorem RunU.nilD (hp : pairsOk ops pre.reverse = true) (h : Q st nx) : RunU true P n ops [] st nx pre Q := RunD.nil hp h
theorem RunU.cons {d op ty pos aft rd up} (hs : Step P n ⟨d, op, ty, pos, aft, none⟩ nx st rd up) (h : RunU dr P n ops l (puts st up) (nx + 1) ((rdE rd, fpE (up.map Prod.fst)) :: pre) Q) : RunU dr P n ops (⟨d, op, ty, pos, aft, none⟩ :: l) st nx pre Q := by
 cases dr
 ·exact RunL.cons hs h
 ·exact RunD.cons hs h
theorem RunU.consX {d op ty pos aft rd up} (hs : StepX P n ⟨d, op, ty, pos, aft, none⟩ nx st rd up) (h : RunU dr P n ops l (puts st up) (nx + 1) ((rdE rd, fpE (up.map Prod.fst)) :: pre) Q) : RunU dr P n ops (⟨d, op, ty, pos, aft, none⟩ :: l) st nx pre Q := by
 cases dr
 ·exact RunL.consX hs h
 ·exact RunD.consX hs h
theorem RunU.consW {d op ty pos aft wk rd up} (hs : StepW P n ⟨d, op, ty, pos, aft, none⟩ nx st wk rd up) (h : RunU dr P n ops l (puts st up) (nx + 1) ((wkE wk ++ rdE rd, fpE (up.map Prod.fst)) :: pre) Q) : RunU dr P n ops (⟨d, op, ty, pos, aft, none⟩ :: l) st nx pre Q := by
 cases dr
 ·exact RunL.cons (rd := rd ++ wk) (fun X st' h1 hX => hs X st' (fun s h => h1 s (List.mem_append_left _ h)) (fun s h => by rw [h1 s (List.mem_append_right _ h)]) hX) h
 ·exact RunD.consW hs h
theorem RunU.consK {d op ty pos aft rd up0 x v up} (hs : Step P n ⟨d, op, ty, pos, aft, none⟩ nx st rd up0) (he : up0 = (x, v) :: up) (hx : rd.contains x = true) (hv : hdr v = hdr (st x))
  (h : RunU dr P n ops l (puts st ((x, v) :: up)) (nx + 1) ((rdE rd, (2 * x) :: fpE (up.map Prod.fst)) :: pre) Q) : RunU dr P n ops (⟨d, op, ty, pos, aft, none⟩ :: l) st nx pre Q := by
 subst he
 cases dr
 ·exact RunL.cons hs h
 ·exact RunD.consK hs hx hv h
theorem RunU.doit {d op ty pos aft j b t rd up} (hd : (ops[j]?).bind (·.dst) = some t) (ht : st t = .c (.lit (.bool b))) (hs : Step P n ⟨d, op, ty, pos, aft, some (j, b)⟩ nx st rd up)
  (h : RunU dr P n ops l (puts st up) (nx + 1) ((rdE (t :: rd), fpE (up.map Prod.fst)) :: pre) Q) : RunU dr P n ops (⟨d, op, ty, pos, aft, some (j, b)⟩ :: l) st nx pre Q := by
 cases dr
 ·exact RunL.doit (by simpa using hd) ht hs h
 ·exact RunD.doit hd ht hs h
theorem RunU.pass {d op ty pos aft j b b' t} (hd : (ops[j]?).bind (·.dst) = some t) (ht : st t = .c (.lit (.bool b))) (hb : b = !b') (hdn : n d = true)
  (h : RunU dr P n ops l (put st d (.tup [])) (nx + 1) ((rdE [t], fpE [d]) :: pre) Q) : RunU dr P n ops (⟨some d, op, ty, pos, aft, some (j, b')⟩ :: l) st nx pre Q := by
 cases dr
 ·exact RunL.pass (by simpa using hd) ht hb hdn (RunL.more h)
 ·exact RunD.pass hd ht hb hdn h
theorem RunU.pass_undef {d op ty pos aft j b' t} (hd : (ops[j]?).bind (·.dst) = some t) (ht : st t = .tup []) (hdn : n d = true)
  (h : RunU dr P n ops l (put st d (.tup [])) (nx + 1) ((rdE [t], fpE [d]) :: pre) Q) : RunU dr P n ops (⟨some d, op, ty, pos, aft, some (j, b')⟩ :: l) st nx pre Q := by
 cases dr
 ·exact RunL.pass_undef (by simpa using hd) ht hdn (RunL.more h)
 ·exact RunD.pass_undef hd ht hdn h
theorem RunU.guard {d op ty pos aft j b' t} {b : Bool} (hd : (ops[j]?).bind (·.dst) = some t) (ht : st t = .c (.lit (.bool b)))
  (h1 : b = true → RunU dr P n ops (⟨d, op, ty, pos, aft, some (j, b')⟩ :: l) (put st t (.c (.lit (.bool true)))) nx pre Q)
  (h2 : b = false → RunU dr P n ops (⟨d, op, ty, pos, aft, some (j, b')⟩ :: l) (put st t (.c (.lit (.bool false)))) nx pre Q) : RunU dr P n ops (⟨d, op, ty, pos, aft, some (j, b')⟩ :: l) st nx pre Q := by
 have _ := hd
 cases b with
 | true => have := h1 rfl; rwa [put_eq_self ht] at this
 | false => have := h2 rfl; rwa [put_eq_self ht] at this
theorem RunU.guard_dec {d op ty pos aft j b' t} {c : Prop} {hc : Decidable c} (hd : (ops[j]?).bind (·.dst) = some t) (ht : st t = .c (.lit (.bool (@decide c hc))))
  (h1 : c → RunU dr P n ops (⟨d, op, ty, pos, aft, some (j, b')⟩ :: l) (put st t (.c (.lit (.bool true)))) nx pre Q)
  (h2 : ¬ c → RunU dr P n ops (⟨d, op, ty, pos, aft, some (j, b')⟩ :: l) (put st t (.c (.lit (.bool false)))) nx pre Q) : RunU dr P n ops (⟨d, op, ty, pos, aft, some (j, b')⟩ :: l) st nx pre Q :=
 RunU.guard hd ht (fun h => h1 (of_decide_eq_true h)) (fun h => h2 (of_decide_eq_false h))
theorem RunU.guard_not {d op ty pos aft j b' t} {c : Prop} {hc : Decidable c} (hd : (ops[j]?).bind (·.dst) = some t) (ht : st t = .c (.lit (.bool (!@decide c hc))))
  (h1 : ¬ c → RunU dr P n ops (⟨d, op, ty, pos, aft, some (j, b')⟩ :: l) (put st t (.c (.lit (.bool true)))) nx pre Q)
  (h2 : c → RunU dr P n ops (⟨d, op, ty, pos, aft, some (j, b')⟩ :: l) (put st t (.c (.lit (.bool false)))) nx pre Q) : RunU dr P n ops (⟨d, op, ty, pos, aft, some (j, b')⟩ :: l) st nx pre Q :=
 RunU.guard hd ht (fun h => h1 (of_decide_eq_false (by simpa using h))) (fun h => h2 (of_decide_eq_true (by simpa using h)))
theorem WpA.regionU {Q : Exit → (Nat → AV) → Nat → Prop} {id : Nat} (h : RunU false P n l l st nx [] fun s k => Q .normal s k) : WpA P n (.region id l.toArray false) st nx Q := WpA.region h
theorem WpA.drawU [hm : Mixed P] {Q : Exit → (Nat → AV) → Nat → Prop} {id : Nat} (h : RunU true P n l l st nx [] fun s k => Q .normal s k) : WpA P n (.region id l.toArray true) st nx Q := WpA.draw h
end
end Go.Pv
namespace Go.Pv
open Go.RowKit
section
variable {P : Program} {n : NN} {nid : Nat} {st : Nat → AV} {f : Fr} {X : Nat → Prop} {a : Act} {w : World} {ρ : Nat → Rho} {L : Nat → List Nat} {M : List Nat}
theorem nav_put : ∀ (path : List Nat) (dd d0 e : D), dd.nav path = some d0 → (dd.put path e).nav path = some e
 | [], _, _, _, _ => rfl
 | k :: path, dd, d0, e, h => by
  simp only [D.nav] at h
  cases hk : dd.kids with
  | none => simp [hk] at h
  | some cs =>
   simp only [hk] at h
   cases hc : cs[k]? with
   | none => simp [hc] at h
   | some c =>
    simp only [hc] at h
    have hlt : k < cs.length := (List.getElem?_eq_some_iff.1 hc).1
    simp only [D.put, hk, hc, D.nav, kids_with hk, List.getElem?_set_self hlt]
    exact nav_put path c d0 e h
theorem put_put : ∀ (path : List Nat) (dd d0 e e' : D), dd.nav path = some d0 → (dd.put path e).put path e' = dd.put path e'
 | [], _, _, _, _, _ => rfl
 | k :: path, dd, d0, e, e', h => by
  simp only [D.nav] at h
  cases hk : dd.kids with
  | none => simp [hk] at h
  | some cs =>
   simp only [hk] at h
   cases hc : cs[k]? with
   | none => simp [hc] at h
   | some c =>
    simp only [hc] at h
    have hlt : k < cs.length := (List.getElem?_eq_some_iff.1 hc).1
    simp only [D.put, hk, hc, kids_with hk, List.getElem?_set_self hlt, with_with hk, List.set_set]
    rw [put_put path c d0 e e' h]
theorem WpA.loop_slots2 {c : Code} {nx : Nat} {Q : Exit → (Nat → AV) → Nat → Prop} (slots : Nat → Nat → List (Nat × AV)) (C : Nat → Prop) (μ : Nat → Nat) (i0 id0 : Nat) (hC : C i0) (h0 : Has st (slots i0 id0))
  (round : ∀ i id s k, C i → WpA P n c (puts s (slots i id)) k (Then (fun s' _ => ∃ i', C i' ∧ (∃ id', Has s' (slots i' id')) ∧ μ i' < μ i) Q)) : WpA P n (.loop c) st nx Q :=
 WpA.loop_slots (ι := Nat × Nat) (fun p => slots p.1 p.2) (fun p => C p.1) (fun p => μ p.1) (i0, id0) hC h0 fun p s k hp =>
  (round p.1 p.2 s k hp).mono fun e s' k' q => by
   cases e with
   | normal => obtain ⟨i', q1, ⟨id', q2⟩, q3⟩ := q; exact ⟨(i', id'), q1, q2, q3⟩
   | _ => exact q
inductive IoAt (st : Nat → AV) : Operand → Nat → Nat → List Nat → D → D → List Nat → Prop
 | sl {t id sz cs} : st t = .own id (.sl true sz cs) → IoAt st (.tmp t) t id [] (.sl true sz cs) (.sl true sz cs) [t]
 | pt {t id cs} : st t = .own id (.pt true cs) → IoAt st (.tmp t) t id [] (.pt true cs) (.pt true cs) [t]
 | als {t x id path dd sz cs} : st t = .als x id path → st x = .own id dd → dd.nav path = some (.sl true sz cs) → IoAt st (.tmp t) x id path dd (.sl true sz cs) [t, x]
 | ptr {t x id cs} : st t = .ptr x id [] 0 → st x = .own id (.pt true cs) → IoAt st (.tmp t) x id [] (.pt true cs) (.pt true cs) [t, x]
theorem IoAt.agree {st' : Nat → AV} {x : Operand} {xr id : Nat} {path rd : List Nat} {dd d : D} (h : IoAt st x xr id path dd d rd) (hs : ∀ s ∈ rd, st' s = st s) : IoAt st' x xr id path dd d rd := by
 cases h with
 | sl h => exact .sl ((hs _ (by simp)).trans h)
 | pt h => exact .pt ((hs _ (by simp)).trans h)
 | als h1 h2 h3 => exact .als ((hs _ (by simp)).trans h1) ((hs _ (by simp)).trans h2) h3
 | ptr h1 h2 => exact .ptr ((hs _ (by simp)).trans h1) ((hs _ (by simp)).trans h2)
theorem IoAt.own {x : Operand} {xr id : Nat} {path rd : List Nat} {dd d : D} (h : IoAt st x xr id path dd d rd) : st xr = .own id dd ∧ dd.nav path = some d ∧ xr ∈ rd := by
 cases h <;> exact ⟨by assumption, by first | rfl | assumption, by simp⟩
theorem named {F : Nat → Prop} {w : World} {d : D} {cs : List D} {r : Rho} {v : Value} {L1 : List Nat} (hk : d.kids = some cs) (h : RD F w d r v L1) : v = r [] := by
 cases d with
 | lit v => simp [D.kids] at hk
 | hole => simp [D.kids] at hk
 | fn g cs => simp [D.kids] at hk
 | sl own sz cs' => cases own <;> simp [D.kids] at hk; simp only [RD] at h; exact h.1
 | pt own cs' => cases own <;> simp [D.kids] at hk; simp only [RD] at h; exact h.1
theorem IoAt.kids {x : Operand} {xr id : Nat} {path rd : List Nat} {dd d : D} (h : IoAt st x xr id path dd d rd) : ∃ cs, d.kids = some cs := by
 cases h <;> exact ⟨_, rfl⟩
theorem IoAt.eval (hr : RepO f X st a w ρ L) {x : Operand} {xr id : Nat} {path rd : List Nat} {dd d : D} (h : IoAt st x xr id path dd d rd) : a.eval x = ρ id path := by
 cases h with
 | @sl _ _ sz cs h =>
  have := hr.slots xr
  rw [h] at this
  simp only [SR] at this
  exact named (cs := cs) rfl this
 | @pt _ _ cs h =>
  have := hr.slots xr
  rw [h] at this
  simp only [SR] at this
  exact named (cs := cs) rfl this
 | @als t x id path dd sz cs h1 h2 h3 =>
  have := hr.slots t
  rw [h1] at this
  simp only [SR] at this
  exact this.2
 | @ptr t _ _ cs h1 h2 =>
  have ht := hr.slots t
  rw [h1] at ht
  simp only [SR] at ht
  obtain ⟨_, b, hb, e0⟩ := ht
  have hx := hr.slots xr
  rw [h2] at hx
  simp only [SR] at hx
  simp only [RD] at hx
  obtain ⟨e1, g, us, L1, ty, e3, _⟩ := hx
  have e1 : tmp a xr = ρ id [] := e1
  rw [← e1, e3] at hb ⊢
  simp only [baseOf, Option.some.injEq] at hb
  show tmp a t = _
  rw [e0, ← hb, add_zero']
theorem RepM.lend (h : RepM f X st a w ρ L M) {x : Operand} {xr id : Nat} {path rd : List Nat} {dd d : D} (hi : IoAt st x xr id path dd d rd) :
  ∃ r L' M1, RepM f X (put st xr (.own id (dd.put path .hole))) a w ρ L' (M ++ M1) ∧ RD f.F w d r (a.eval x) M1 := by
 obtain ⟨hx, hn, _⟩ := hi.own
 have hids := h.rep.ids xr
 rw [hx] at hids
 obtain ⟨cs, hk⟩ := hi.kids
 obtain ⟨v1, A, L1, B, eL, h3, hset⟩ := h.rep.part hx hn
 have hv1 : v1 = (ρ id).sub path [] := named hk h3
 have hev : a.eval x = v1 := by rw [hv1, Rho.sub_nil]; exact hi.eval h.rep
 have hfin := hset w .hole ((ρ id).sub path) [] (fun _ _ => rfl) (fun _ _ => rfl) (by simp only [RD]; exact ⟨hv1, h3.one, trivial⟩)
 rw [Rho.set_sub] at hfin
 have hnd := h.rep.nodup xr
 rw [eL] at hnd
 simp only [List.nodup_append, List.mem_append] at hnd
 rw [hev]
 refine ⟨_, _, L1, h.detach xr (.own id (dd.put path .hole)) (A ++ ([] ++ B)) L1 (by simp only [SR]; exact hfin) (by simpa [AV.ids] using hids) (fun g hg => ?_) ?_ hnd.2.1.1 (fun g hg hg' => ?_), h3⟩
 ·rw [eL]; simp only [List.nil_append, List.mem_append] at hg ⊢; grind
 ·simp only [List.nil_append, List.nodup_append]; grind
 ·simp only [List.nil_append, List.mem_append] at hg; grind
def litAV : List Value → AV
 | [] => .dead
 | [v] => .c (.lit v)
 | vs => .tup (vs.map fun v => .c (.lit v))
theorem lits_res {F : Nat → Prop} {w : World} : ∀ (vs : List Value) (us : List Value) (Lr : List Nat), VRs F w (vs.map fun v => .one (.lit v)) us Lr → us = vs ∧ Lr = [] ∧ ∀ v ∈ vs, v.oneCell' = true
 | [], us, Lr, h => by simp only [List.map_nil, VRs] at h; exact ⟨h.1, h.2, by simp⟩
 | v :: vs, us, Lr, h => by
  simp only [List.map_cons, VRs, VR, RD] at h
  obtain ⟨u, us', L1, L2, rfl, rfl, ⟨r, rfl, h1, rfl⟩, h2⟩ := h
  obtain ⟨rfl, rfl, h3⟩ := lits_res vs us' L2 h2
  exact ⟨rfl, rfl, by simpa using ⟨h1, h3⟩⟩
theorem SR_lit {F : Nat → Prop} {w : World} {ρ : Nat → Rho} {v : Value} (h : v.oneCell' = true) : SR F w ρ (.c (.lit v)) v [] := by
 simp only [SR, RD]; exact ⟨trivial, fun _ => undef, trivial, h, trivial⟩
theorem SRs_lits {F : Nat → Prop} {w : World} {ρ : Nat → Rho} : ∀ (vs : List Value), (∀ v ∈ vs, v.oneCell' = true) → SRs F w ρ (vs.map fun v => .c (.lit v)) vs []
 | [], _ => by simp [SRs]
 | v :: vs, h => by
  simp only [List.map_cons, SRs]
  exact ⟨v, vs, [], [], rfl, rfl, SR_lit (h v (by simp)), SRs_lits vs fun u hu => h u (by simp [hu])⟩
theorem SR_litAV {F : Nat → Prop} {w : World} {ρ : Nat → Rho} (vs : List Value) (h : ∀ v ∈ vs, v.oneCell' = true) : SR F w ρ (litAV vs) (retVal vs) [] := by
 match vs, h with
 | [], _ => simp only [litAV, SR]
 | [v], h => exact SR_lit (h v (by simp))
 | u :: v :: vs, h => simp only [litAV, SR]; exact ⟨_, rfl, SRs_lits _ h⟩
theorem litAV_ids (vs : List Value) : (litAV vs).ids = [] := by
 have : ∀ vs : List Value, AV.idss (vs.map fun v => .c (.lit v)) = [] := by
  intro vs
  induction vs with
  | nil => rfl
  | cons v vs ih => simp [AV.idss, AV.ids, ih]
 match vs with
 | [] => rfl
 | [v] => rfl
 | u :: v :: vs => simp only [litAV, AV.ids]; exact this _
theorem step_call_io {d0 : Nat} {K : FuncId} {x : Operand} {xs : List Operand} {ts : Array TypeId} {args : List Arg} {rs : List Value} {d d' dd : D} {xr id : Nat} {path rd rd1 rd2 : List Nat} {up : List (Nat × AV)} {ty pos aft g} [FnOk P K]
  (hc : CallA P K (.io d :: args) (rs.map fun v => .one (.lit v)) [d']) (hi : IoAt st x xr id path dd d rd) (hm : Moves (put st xr (.own id (dd.put path .hole))) xs args rd1 up) (hr : Reads (puts (put st xr (.own id (dd.put path .hole))) up) xs args rd2)
  (hx : puts (put st xr (.own id (dd.put path .hole))) up xr = .own id (dd.put path .hole)) (hne : (d0 == xr) = false) (hd : n d0 = true) :
  Step P n ⟨some d0, .call ⟨.value (.func K), (x :: xs).toArray, ts⟩, ty, pos, aft, g⟩ nid st (rd ++ (rd1 ++ rd2)) ((xr, .own id (dd.put path .hole)) :: (up ++ [(d0, litAV rs), (xr, .own nid (dd.put path d'))])) := by
 intro X st' hs hX f a w hn hrep Kk Q hK
 obtain ⟨ρ, L, h⟩ := hrep
 subst hn
 have hne : d0 ≠ xr := by simpa using hne
 have hi' := hi.agree (st' := st') fun s hs' => hs s (List.mem_append_left _ hs')
 have ag : ∀ s, st' s = st s → put st' xr (.own id (dd.put path .hole)) s = put st xr (.own id (dd.put path .hole)) s := fun s e => by unfold put; split <;> simp_all
 have hm' := hm.agree (st' := put st' xr (.own id (dd.put path .hole))) fun s hs' => ag s (hs s (by simp [hs']))
 obtain ⟨r0, L0, M0, h0, hv0⟩ := h.toM.lend hi'
 obtain ⟨L', M1, h1, h2⟩ := h0.moves hm'
 simp only [puts] at hK
 rw [puts_append] at hK
 rw [List.nil_append] at h1
 have hr' := hr.agree (st' := puts (put st' xr (.own id (dd.put path .hole))) up) fun s hs' => puts_agree _ _ (ag s (hs s (by simp [hs'])))
 have h3 := args_of (rd := []) h1 h2 hr'
 have hx' : puts (put st' xr (.own id (dd.put path .hole))) up xr = .own id (dd.put path .hole) := by
  exact (puts_agree up xr (by simp [put])).trans hx
 refine wp_of_enter (run_call a.eval rfl w) ?_
 have e : (x :: xs).toArray.map a.eval = (a.eval x :: xs.map a.eval).toArray := by simp
 rw [e]
 have hargs : ArgsR (Free w (M0 ++ M1)) w (.io d :: args) (a.eval x :: xs.map a.eval) (M0 ++ M1) := by
  simp only [ArgsR]
  exact ⟨_, _, M0, M1, rfl, rfl, ⟨r0, RD.same (fun _ hg => h1.free hg) (fun _ _ => rfl) d r0 _ M0 hv0 (fun _ _ => rfl)⟩, h3⟩
 refine (hc w _ (M0 ++ M1) (Free w (M0 ++ M1)) (fun _ h => h) hargs h1.nd (fun g hg => (h1.bound g hg).1)).mono ?_
 rintro e w' ⟨us, Lr, Lo, rfl, hk, hv, ho, hnd, hL⟩
 obtain ⟨rfl, rfl, hone⟩ := lits_res rs us Lr hv
 rw [List.nil_append] at hnd hL
 have hout : ∃ r, RD (Res true (Free w (M0 ++ M1))) w' d' r (a.eval x) Lo := by
  simp only [OutsR] at ho
  obtain ⟨u, us', d1, ds', r, La, Lb, e1, e2, rfl, k1, k2⟩ := ho
  obtain ⟨rfl, rfl⟩ := List.cons.inj e1
  obtain ⟨rfl, rfl⟩ := List.cons.inj e2
  have hLb : Lb = [] := outs_nil h2 _ _ k2
  subst hLb
  exact ⟨r, by simpa using k1⟩
 obtain ⟨r, hout⟩ := hout
 refine ⟨_, rfl, ?_⟩
 have hxs := h1.rep.slots xr
 rw [hx'] at hxs
 simp only [SR] at hxs
 have hnav := nav_put path dd d .hole hi.own.2.1
 obtain ⟨v1, A, L1, B, eL, h5, hset⟩ := RD.focus path _ _ _ _ hxs .hole hnav
 simp only [RD] at h5
 obtain ⟨hv1, _, rfl⟩ := h5
 have hev : a.eval x = v1 := by rw [hv1, Rho.sub_nil]; exact hi'.eval h
 rw [hev] at hout
 have hFs : ∀ g, f.F g → Same w w' g := fun g hg => hk.block g (h1.rep.F_lt hg) (fun hm => (h1.bound g hm).2 hg)
 have hLx : ∀ t, ∀ g ∈ L' t, Same w w' g := fun t g hg => hk.block g (h1.rep.bound t g hg).1 (h1.disj t g hg)
 have hfin := hset w' d' r Lo hFs (fun g hg => hLx xr g (by rw [eL]; rcases hg with hg | hg <;> simp [hg])) (RD.same (fun g hg => by cases hg.1) (fun g hg => by cases hg.1) d' r _ Lo hout (fun _ _ => rfl))
 rw [put_put path dd d .hole d' hi.own.2.1] at hfin
 refine hK _ _ ⟨fun i => if i = nid then (ρ id).set path r else ρ i, fun s => if s = xr then A ++ (Lo ++ B) else if s = d0 then [] else L' s, ?_⟩
 have hL0 : ∀ g ∈ Lo, g ∉ L' xr := fun g hg hg' => by
  rcases (hL g hg).2 with h | h
  ·exact h1.disj xr g hg' h
  ·have := (h1.rep.bound xr g hg').1; omega
 have hndx := h1.rep.nodup xr
 rw [eL] at hndx
 have hst : ∀ s, s ≠ xr → s ≠ d0 → puts (puts (put st' xr (.own id (dd.put path .hole))) up) [(d0, litAV us), (xr, .own nid (dd.put path d'))] s = puts (put st' xr (.own id (dd.put path .hole))) up s := fun s h1 h2 => by
  simp only [puts]; rw [put_other _ _ _ _ h1, put_other _ _ _ _ h2]
 refine h1.step (fun s => s = xr ∨ s = d0) (M0 ++ M1) _ _ _ w' _ _ (put_defers _ _ _) (put_size _ _ _) (hold_put _ hd) hk (fun g hg => .inr hg) (fun i hi => by rw [if_neg (by rintro rfl; exact hX hi)]) (fun s hs' => ?_) (fun s hs' => ?_) (fun s u hs' hu hsu g hg hgu => ?_) (fun _ h => .inl h) (fun s hs' i hi => ?_)
 ·simp only [not_or] at hs'
  exact ⟨hst s hs'.1 hs'.2, tmp_put_other _ _ _ _ hs'.2, by simp [hs'.1, hs'.2]⟩
 ·by_cases hsx : s = xr
  ·subst hsx
   rw [if_pos rfl, tmp_put_other _ _ _ _ (Ne.symm hne)]
   simp only [puts, put_same, SR, if_true]
   refine ⟨hfin, ?_, fun g hg => ?_⟩
   ·have hd2 : ∀ g ∈ Lo, g ∉ A ∧ g ∉ B := fun g hg => by
     have := hL0 g hg
     rw [eL] at this
     simp only [List.mem_append, not_or] at this
     exact ⟨this.1, this.2.2⟩
    simp only [List.nodup_append, List.mem_append] at hndx ⊢
    grind
   ·simp only [List.mem_append] at hg
    rcases hg with hg | hg | hg
    ·have : g ∈ L' s := by rw [eL]; simp [hg]
     exact ⟨Nat.lt_of_lt_of_le (h1.rep.bound s g this).1 hk.size, .inl ⟨s, .inl rfl, this⟩⟩
    ·exact ⟨(hL g hg).1, .inr (hL g hg).2⟩
    ·have : g ∈ L' s := by rw [eL]; simp [hg]
     exact ⟨Nat.lt_of_lt_of_le (h1.rep.bound s g this).1 hk.size, .inl ⟨s, .inl rfl, this⟩⟩
  ·have hs0 : s = d0 := hs'.resolve_left hsx
   subst hs0
   rw [if_neg hsx, if_pos rfl, tmp_put_same _ _ _ (h1.rep.size _ hd)]
   simp only [puts]
   rw [put_other _ _ _ _ hsx, put_same]
   exact ⟨SR_litAV us hone, List.nodup_nil, fun g hg => by simp at hg⟩
 ·by_cases hsx : s = xr
  ·have hu0 : u ≠ xr := fun e => hsu (hsx.trans e.symm)
   have hu' : u = d0 := hu.resolve_left hu0
   rw [if_neg hu0, if_pos hu'] at hgu
   simp at hgu
  ·have hs0 : s = d0 := hs'.resolve_left hsx
   rw [if_neg hsx, if_pos hs0] at hg
   simp at hg
 ·by_cases hsx : s = xr
  ·subst hsx
   simp only [puts, put_same, AV.ids, List.mem_singleton] at hi
   exact .inr hi
  ·have hs0 : s = d0 := hs'.resolve_left hsx
   subst hs0
   simp only [puts] at hi
   rw [put_other _ _ _ _ hsx, put_same, litAV_ids] at hi
   simp at hi
theorem nav_LL {L : List (List Int)} {j : Nat} (h : j < L.length) : (D.sl true 1 (LL L)).nav ([] ++ [j]) = some (.sl true 1 (ints (L.getD j []))) := by
 simp only [List.nil_append, D.nav, D.kids, LL, LL_get h]
theorem idx_lit (k : Nat) : (OfNat.ofNat k : Int) = ((OfNat.ofNat k : Nat) : Int) := rfl
theorem nav_snoc : ∀ (path : List Nat) (dd d1 : D) (cs : List D) (c : D) (j : Nat), dd.nav path = some d1 → d1.kids = some cs → cs[j]? = some c → dd.nav (path ++ [j]) = some c
 | [], dd, d1, cs, c, j, h, hk, hc => by
  simp only [D.nav, Option.some.injEq] at h
  subst h
  simp only [List.nil_append, D.nav, hk, hc]
 | k :: path, dd, d1, cs, c, j, h, hk, hc => by
  simp only [D.nav] at h
  cases hk1 : dd.kids with
  | none => simp [hk1] at h
  | some cs1 =>
   simp only [hk1] at h
   cases hc1 : cs1[k]? with
   | none => simp [hc1] at h
   | some c1 =>
    simp only [hc1] at h
    simp only [List.cons_append, D.nav, hk1, hc1]
    exact nav_snoc path c1 d1 cs c j h hk hc
theorem nav_LL_at {path : List Nat} {dd : D} {L : List (List Int)} {j : Nat} (h : dd.nav path = some (.sl true 1 (LL L))) (hj : j < L.length) : dd.nav (path ++ [j]) = some (.sl true 1 (ints (L.getD j []))) :=
 nav_snoc path dd _ _ _ j h rfl (by simp only [LL, LL_get hj])
theorem own_put_LL {id : Nat} {L L' : List (List Int)} {j : Nat} {m : List Int} (h : j < L.length) (e : L.set j m = L') : AV.own id ((D.sl true 1 (LL L)).put ([] ++ [j]) (.sl true 1 (ints m))) = AV.own id (.sl true 1 (LL L')) := by
 subst e
 simp only [List.nil_append, D.put, D.kids, LL, LL_get h, D.withKids, List.map_set]
theorem step_call_io1 {d0 : Nat} {K : FuncId} {x : Operand} {xs : List Operand} {ts : Array TypeId} {args : List Arg} {v : Value} {d d' dd : D} {xr id : Nat} {path rd rd1 rd2 : List Nat} {up : List (Nat × AV)} {ty pos aft g} [FnOk P K]
  (hc : CallA P K (.io d :: args) [.one (.lit v)] [d']) (hi : IoAt st x xr id path dd d rd) (hm : Moves (put st xr (.own id (dd.put path .hole))) xs args rd1 up) (hr : Reads (puts (put st xr (.own id (dd.put path .hole))) up) xs args rd2)
  (hx : puts (put st xr (.own id (dd.put path .hole))) up xr = .own id (dd.put path .hole)) (hne : (d0 == xr) = false) (hd : n d0 = true) :
  Step P n ⟨some d0, .call ⟨.value (.func K), (x :: xs).toArray, ts⟩, ty, pos, aft, g⟩ nid st (rd ++ (rd1 ++ rd2)) ((xr, .own id (dd.put path .hole)) :: (up ++ [(d0, .c (.lit v)), (xr, .own nid (dd.put path d'))])) := step_call_io (rs := [v]) hc hi hm hr hx hne hd
theorem iA {x : Operand} {xr id : Nat} {path rd : List Nat} {dd d : D} (h : IoAt st x xr id path dd d rd := by first | exact .als rfl rfl rfl | exact .als rfl rfl (nav_LL (by omega)) | exact .sl rfl | exact .pt rfl | exact .ptr rfl rfl) : IoAt st x xr id path dd d rd := h
end
end Go.Pv
namespace Go.Pv
open Go.RowKit
def CallNG (own : Bool) (P : Program) (K : FuncId) (d : D) (args : List Arg) (rs : List V) (d' : D) : Prop :=
 ∀ (w : World) (v : Value) (vs : List Value) (M0 M1 : List Nat) (F : Nat → Prop) (r : Rho), (∀ g, F g → g < w.heap.size ∧ g ∉ M0 ++ M1) → RD F w d r v M0 → ArgsR F w args vs M1 → (M0 ++ M1).Nodup → (∀ g ∈ M0 ++ M1, g < w.heap.size) →
  Calls P K (v :: vs).toArray w fun e w' => ∃ us Lr Lo, e = .returned (retVal us) ∧ Keep w (M0 ++ M1) w' ∧ VRs (Res own F) w' rs us Lr ∧ RD (Res own F) w' d' r v Lo ∧ (Lr ++ Lo).Nodup ∧
   ∀ g ∈ Lr ++ Lo, g < w'.heap.size ∧ (g ∈ M0 ++ M1 ∨ w.heap.size ≤ g)
section
variable {P : Program} {n : NN} {nid : Nat} {st : Nat → AV} {f : Fr} {X : Nat → Prop} {a : Act} {w : World} {ρ : Nat → Rho} {L : Nat → List Nat} {M : List Nat}
def DoneN (P : Program) (fn : Func) (d : D) (args : List Arg) (rs : List V) (d' : D) (e : Exit) (s : Nat → AV) (_ : Nat) : Prop :=
 (e = .normal ∨ e = .ret) ∧ ∃ s', Ress P s fn.results.toList rs s' ∧ s' 0 = .own 0 d'
end
end Go.Pv
namespace Go.Pv
open Go.RowKit
abbrev bools (l : List Bool) : List D := l.map fun b => D.lit (.bool b)
theorem bools_get {l : List Bool} {i : Nat} (h : i < l.length) : (l.map fun b => D.lit (.bool b))[i]? = some (.lit (.bool (l.getD i false))) := map_get false h
theorem solids_bools (l : List Bool) : D.solids (bools l) = true := by
 unfold bools
 induction l with
 | nil => rfl
 | cons a l ih => simp only [List.map_cons, D.solids, D.solid, ih, Bool.and_self]
section
variable {P : Program} {n : NN} {nid : Nat} {st : Nat → AV} {f : Fr} {X : Nat → Prop} {a : Act} {w : World} {ρ : Nat → Rho} {L : Nat → List Nat} {M : List Nat}
inductive AllC : List AV → List D → Prop
 | nil : AllC [] []
 | cons {d l ds} : AllC l ds → AllC (.c d :: l) (d :: ds)
inductive ShowsF (st : Nat → AV) : Operand → List Nat → V → Prop
 | lit {x v} : Lit st x v → v.oneCell' = true → ShowsF st x (rdOf x) (.one (.lit v))
 | c {t d} : st t = .c d → ShowsF st (.tmp t) [t] (.one d)
 | agg {t l ds} : st t = .agg l → AllC l ds → ShowsF st (.tmp t) [t] (.agg ds)
inductive ReadsF (st : Nat → AV) : List Operand → List Arg → List Nat → Prop
 | nil : ReadsF st [] [] []
 | sh {x xs v args rd rds} : ShowsF st x rd v → ReadsF st xs args rds → ReadsF st (x :: xs) (.sh v :: args) (rd ++ rds)
 | mv {x xs v args rds} : ReadsF st xs args rds → ReadsF st (x :: xs) (.mv v :: args) rds
theorem ShowsF.agree {st st' : Nat → AV} {x : Operand} {rd : List Nat} {v : V} (h : ShowsF st x rd v) (hs : ∀ s ∈ rd, st' s = st s) : ShowsF st' x rd v := by
 cases h with
 | lit h h1 => exact .lit (h.agree hs) h1
 | c h => exact .c ((hs _ (by simp)).trans h)
 | agg h h1 => exact .agg ((hs _ (by simp)).trans h) h1
theorem ReadsF.agree {st st' : Nat → AV} : ∀ {xs : List Operand} {args : List Arg} {rd : List Nat}, ReadsF st xs args rd → (∀ s ∈ rd, st' s = st s) → ReadsF st' xs args rd
 | _, _, _, .nil, _ => .nil
 | _, _, _, .sh h1 h2, hs => .sh (h1.agree fun s hs' => hs s (by simp [hs'])) (ReadsF.agree h2 fun s hs' => hs s (by simp [hs']))
 | _, _, _, .mv h, hs => .mv (ReadsF.agree h hs)
theorem AllC.rds {F : Nat → Prop} {w : World} {ρ : Nat → Rho} : ∀ {l : List AV} {ds : List D} {vs : List Value} {L0 : List Nat} (k : Nat), AllC l ds → SRs F w ρ l vs L0 → ∃ r, RDs F w ds k r vs []
 | _, _, _, _, k, .nil, hx => by simp only [SRs] at hx; exact ⟨fun _ => undef, by simp only [RDs]; exact ⟨hx.1, trivial⟩⟩
 | _, _, _, _, k, .cons (d := d) (ds := ds) h, hx => by
  simp only [SRs] at hx
  obtain ⟨v, vs', L1, L2, rfl, rfl, h3, h4⟩ := hx
  simp only [SR] at h3
  obtain ⟨_, r1, e1⟩ := h3
  obtain ⟨r2, e2⟩ := AllC.rds (k + 1) h h4
  refine ⟨fun π => match π with | [] => undef | j :: q => if j = k then r1 q else r2 (j :: q), ?_⟩
  simp only [RDs]
  refine ⟨v, vs', [], [], rfl, rfl, RD.rho d r1 _ v [] e1 (fun π => by simp [Rho.at]), RDs.rho ds (k + 1) r2 _ vs' [] e2 (fun j hj => ?_)⟩
  funext π
  simp [Rho.at, show j ≠ k from by omega]
theorem ShowsF.rd (h : RepM f X st a w ρ L M) {x : Operand} {rd : List Nat} {v : V} (hv : ShowsF st x rd v) : VR f.F w v (a.eval x) [] := by
 cases hv with
 | @lit x v hl h1 =>
  rw [Lit.eval h.rep hl]
  exact ⟨fun _ => undef, by simp only [RD]; exact ⟨trivial, h1, trivial⟩⟩
 | @c t d ht =>
  have := h.rep.slots t
  rw [ht] at this
  simp only [SR] at this
  exact this.2
 | @agg t l ds ht hl =>
  have := h.rep.slots t
  rw [ht] at this
  simp only [SR] at this
  obtain ⟨vs, e, hs⟩ := this
  obtain ⟨r, hr⟩ := hl.rds 0 hs
  exact ⟨r, vs, e, hr⟩
theorem args_ofF (h : RepM f X st a w ρ L M) : ∀ {xs : List Operand} {args : List Arg} {M1 : List Nat}, MovedR f.F w a.eval xs args M1 → ∀ {rd : List Nat}, ReadsF st xs args rd → ArgsR f.F w args (xs.map a.eval) M1
 | _, _, _, .nil, _, .nil => by simp [ArgsR]
 | _, _, _, .sh h1, _, .sh h2 h3 => by
  simp only [ArgsR, List.map_cons]
  exact ⟨_, _, [], _, rfl, rfl, ⟨rfl, h2.rd h⟩, args_ofF h h1 h3⟩
 | _, _, _, .mv h1 h2, _, .mv h3 => by
  simp only [ArgsR, List.map_cons]
  exact ⟨_, _, _, _, rfl, rfl, h1, args_ofF h h2 h3⟩
end
end Go.Pv
namespace Go.Pv
open Go.RowKit
section
variable {P : Program} {n : NN} {nid : Nat} {st : Nat → AV} {f : Fr} {X : Nat → Prop} {a : Act} {w : World} {ρ : Nat → Rho} {L : Nat → List Nat} {M : List Nat}
theorem RepM.giveV (h : RepM f X st a w ρ L M) {x : Operand} {rd : List Nat} {ds : List D} {up : List (Nat × AV)} (hg : GiveV st x rd ds up) :
  ∃ r L' M1 us, RepM f X (puts st up) a w ρ L' (M ++ M1) ∧ (a.eval x).cells.toList = us ∧ RDs f.F w ds 0 r us M1 := by
 cases hg with
 | one hg =>
  obtain ⟨r, L', M1, hm, hr⟩ := h.give hg
  refine ⟨fun π => match π with | [] => undef | j :: q => r q, L', M1, [a.eval x], hm, by rw [oneCell_cells hr.one], ?_⟩
  simp only [RDs]
  exact ⟨_, _, M1, [], rfl, by simp, RD.rho _ r _ _ _ hr (fun π => by simp [Rho.at]), rfl, rfl⟩
 | @agg t l ds ht hl =>
  have h1 := h.rep.slots t
  rw [ht] at h1
  simp only [SR] at h1
  obtain ⟨vs, e0, h1⟩ := h1
  obtain ⟨r, h2⟩ := h1.dats l _ 0 vs (L t) hl
  have hm := h.detach t .dead [] (L t) (by simp only [SR]) (by simp [AV.ids]) (fun g hg => by simpa using hg) List.nodup_nil (h.rep.nodup t) (by simp)
  exact ⟨r, _, L t, vs, hm, by rw [show a.eval (.tmp t) = _ from e0]; simp [Value.cells], h2⟩
 | @parts t l rd ds up ht hl =>
  have h1 := h.rep.slots t
  rw [ht] at h1
  simp only [SR] at h1
  obtain ⟨vs, e0, h1⟩ := h1
  obtain ⟨r, L', M1, hm, h2⟩ := h.givesE hl 0 h1
  exact ⟨r, L', M1, vs, hm, by rw [show a.eval (.tmp t) = _ from e0]; simp [Value.cells], h2⟩
theorem rds_cong {F : Nat → Prop} : ∀ {ds : List D} {k : Nat} {r r' : Rho} {us : List Value} {L : List Nat}, RDs F w ds k r us L → (∀ j, k ≤ j → j < k + ds.length → r'.at j = r.at j) → RDs F w ds k r' us L
 | [], _, _, _, _, _, h, _ => by simpa only [RDs] using h
 | d :: ds, k, r, r', us, L, h, e => by
  simp only [RDs] at h ⊢
  obtain ⟨u, us', L1, L2, rfl, rfl, h1, h2⟩ := h
  exact ⟨u, us', L1, L2, rfl, rfl, by rw [e k (Nat.le_refl _) (by simp)]; exact h1, rds_cong h2 fun j hj hl => e j (by omega) (by simp only [List.length_cons]; omega)⟩
inductive GivesV : (Nat → AV) → List Operand → List Nat → List (List D) → List (Nat × AV) → Prop
 | nil {s0} : GivesV s0 [] [] [] []
 | cons {s0 x xs rd rds d ds up ups} : GiveV s0 x rd d up → GivesV (puts s0 up) xs rds ds ups → GivesV s0 (x :: xs) (rd ++ rds) (d :: ds) (up ++ ups)
theorem GivesV.agree : ∀ {st st' : Nat → AV} {xs : List Operand} {rd : List Nat} {ds : List (List D)} {up : List (Nat × AV)}, GivesV st xs rd ds up → (∀ s ∈ rd, st' s = st s) → GivesV st' xs rd ds up
 | _, _, _, _, _, _, .nil, _ => .nil
 | _, _, _, _, _, _, .cons h1 h2, hs => .cons (h1.agree fun s hs' => hs s (by simp [hs'])) (GivesV.agree h2 fun s hs' => puts_agree _ _ (hs s (by simp [hs'])))
theorem RepM.givesV : ∀ {st : Nat → AV} {L : Nat → List Nat} {M : List Nat}, RepM f X st a w ρ L M → ∀ {xs : List Operand} {rd : List Nat} {dss : List (List D)} {up : List (Nat × AV)}, GivesV st xs rd dss up → ∀ k : Nat,
  ∃ r L' M1, RepM f X (puts st up) a w ρ L' (M ++ M1) ∧ RDs f.F w dss.flatten k r (xs.map fun x => (a.eval x).cells.toList).flatten M1 ∧ (xs.map fun x => (a.eval x).cells.toList.length) = dss.map List.length
 | st, L, M, h, _, _, _, _, .nil, k => ⟨fun _ => undef, L, [], by simpa [puts] using h, by simp [RDs], rfl⟩
 | st, L, M, h, _, _, _, _, .cons (x := x) (xs := xs) (d := d) (ds := dss) h1 h2, k => by
  obtain ⟨r1, L1, M1, us, hm1, hus, hr1⟩ := h.giveV h1
  obtain ⟨r2, L2, M2, hm2, hr2, hl2⟩ := RepM.givesV hm1 h2 (k + d.length)
  have hlen := hr1.length
  refine ⟨(fun π => match π with | [] => undef | j :: q => if j < k + d.length then r1 ((j - k) :: q) else r2 (j :: q)), L2, M1 ++ M2, ?_, ?_, ?_⟩
  ·rw [puts_append, ← List.append_assoc]; exact hm2
  ·simp only [List.map_cons, List.flatten_cons, hus]
   have e1 := RDs.unshift d 0 k r1 us M1 hr1
   rw [Nat.zero_add] at e1
   refine RDs.append d dss.flatten k _ us _ M1 M2 ?_ ?_
   ·exact rds_cong e1 fun j hj hjl => by
     funext π
     simp [Rho.at, show j < k + d.length from hjl]
   ·exact RDs.rho _ _ r2 _ _ _ hr2 fun j hj => by
     funext π
     simp [Rho.at, show ¬ j < k + d.length from by omega]
  ·simp only [List.map_cons, hus, hl2, hlen]
theorem foldl_cells (off : Nat) : ∀ (vs : List Value) (k : Nat) (init : Array Value), off + k + vs.length ≤ init.size →
  (vs.zipIdx k).foldl (fun (cs : Array Value) (x : Value × Nat) => cs.setIfInBounds (off + x.2) x.1) init = (init.toList.take (off + k) ++ (vs ++ init.toList.drop (off + k + vs.length))).toArray
 | [], k, init, _ => by simp
 | v :: vs, k, init, h => by
  simp only [List.length_cons] at h
  simp only [List.zipIdx_cons, List.foldl_cons]
  rw [foldl_cells off vs (k + 1) (init.setIfInBounds (off + k) v) (by simp; omega)]
  congr 1
  rw [Array.toList_setIfInBounds]
  apply List.ext_getElem?
  intro j
  simp only [List.getElem?_append, List.length_take, List.length_set, Array.length_toList, List.getElem?_take, List.getElem?_set, List.getElem?_drop, List.length_cons, List.getElem?_cons]
  grind
theorem fill_seq (place : Nat → Option (Nat × Nat)) : ∀ (vs : List Value) (i off : Nat) (init : Array Value), (∀ j v, vs[j]? = some v → place (i + j) = some (off + ((vs.take j).map fun u => u.cells.toList.length).sum, v.cells.toList.length)) →
  off + (vs.map fun u => u.cells.toList.length).sum ≤ init.size →
  Instr.fill place init ((vs.zipIdx i).map fun p => (p.2, p.1)) = some (init.toList.take off ++ ((vs.map fun u => u.cells.toList).flatten ++ init.toList.drop (off + (vs.map fun u => u.cells.toList.length).sum))).toArray
 | [], i, off, init, _, _ => by simp [Instr.fill]
 | v :: vs, i, off, init, hp, hs => by
  have h0 := hp 0 v rfl
  simp only [Nat.add_zero, List.take_zero, List.map_nil, List.sum_nil] at h0
  simp only [List.map_cons, List.sum_cons] at hs
  simp only [List.zipIdx_cons, List.map_cons, Instr.fill, h0]
  have hsz : v.cells.size = v.cells.toList.length := by simp
  rw [if_neg (by rw [hsz]; simp only [ne_eq, not_true_eq_false, decide_false, Bool.false_or, decide_eq_true_eq]; omega)]
  have hf : (v.cells.zipIdx.foldl (fun cs (x : Value × Nat) => cs.setIfInBounds (off + x.2) x.1) init) = (init.toList.take off ++ (v.cells.toList ++ init.toList.drop (off + v.cells.toList.length))).toArray := by
   rw [← Array.foldl_toList, Array.toList_zipIdx]
   have := foldl_cells off v.cells.toList 0 init (by omega)
   simpa using this
  rw [hf]
  generalize hc : v.cells.toList = c at *
  have hX : (init.toList.take off).length = off := by rw [List.length_take, Array.length_toList]; omega
  generalize hI : init.toList.take off = X0 at *
  generalize hY : init.toList.drop (off + c.length) = Y0 at *
  have hYl : Y0.length = init.size - (off + c.length) := by rw [← hY, List.length_drop, Array.length_toList]
  rw [fill_seq place vs (i + 1) (off + c.length) _ (fun j u hj => by
   have := hp (j + 1) u (by simpa using hj)
   rw [show i + 1 + j = i + (j + 1) by omega, this]
   simp only [List.take_succ_cons, List.map_cons, List.sum_cons, hc]
   congr 2
   omega) (by simp only [List.size_toArray, List.length_append, hX, hYl]; omega)]
  have e1 : (X0 ++ (c ++ Y0)).take (off + c.length) = X0 ++ c := by
   rw [← List.append_assoc]
   exact List.take_left' (by rw [List.length_append, hX])
  have e2 : (X0 ++ (c ++ Y0)).drop (off + c.length + (vs.map fun u => u.cells.toList.length).sum) = init.toList.drop (off + (c.length + (vs.map fun u => u.cells.toList.length).sum)) := by
   rw [← List.drop_drop, ← List.append_assoc, List.drop_left' (by rw [List.length_append, hX]), ← hY, List.drop_drop]
   congr 1; omega
  simp only [List.flatten_cons, List.sum_cons, hc, List.map_cons]
  rw [e1, e2]
  simp only [List.append_assoc]
end
section
variable {P : Program} {n : NN} {nid : Nat} {st : Nat → AV} {f : Fr} {X : Nat → Prop} {a : Act} {w : World} {ρ : Nat → Rho} {L : Nat → List Nat} {M : List Nat}
def placesOf : List Nat → Nat → List (Nat × Nat)
 | [], _ => []
 | s :: r, off => (off, s) :: placesOf r (off + s)
theorem placesOf_at : ∀ (szs : List Nat) (off j s : Nat), szs[j]? = some s → (placesOf szs off)[j]? = some (off + (szs.take j).sum, s)
 | [], _, _, _, h => by simp at h
 | a :: r, off, 0, s, h => by simp at h; subst h; simp [placesOf]
 | a :: r, off, j + 1, s, h => by
  simp only [placesOf, List.getElem?_cons_succ, List.take_succ_cons, List.sum_cons]
  rw [placesOf_at r (off + a) j s (by simpa using h)]
  congr 2
  omega
class BuildTy (P : Program) (T : TypeId) (szs : outParam (List Nat)) : Prop where
 out : ∃ z fs, (P.info? T).map (·.zero) = some (some z) ∧ P.underlying T = some (.struct fs) ∧ fs.toList.mapM (fun f => (P.info? f.type).map fun i => (f.offset, i.size)) = some (placesOf szs 0) ∧ z.cells.size = szs.sum
theorem run_build_seq {T : TypeId} {szs : List Nat} [hT : BuildTy P T szs] (w : World) (parts : Array (Nat × Value)) (vs : List Value) (hp : parts.toList = vs.zipIdx.map fun p => (p.2, p.1)) (hl : (vs.map fun u => u.cells.toList.length) = szs) :
  (Instr.build T parts).run P w = .ok (.agg (vs.map fun u => u.cells.toList).flatten.toArray) w := by
 obtain ⟨z, fs, h1, h2, h3, h4⟩ := hT.out
 refine run_build w T parts _ ?_
 obtain ⟨i, hi, hz⟩ := Option.map_eq_some_iff.1 h1
 unfold Program.built
 simp only [hi, h2, hz, h3, hp]
 have := fill_seq (fun k => (placesOf szs 0).toArray[k]?) vs 0 0 z.cells (fun j v hj => by
  have hs : szs[j]? = some v.cells.toList.length := by rw [← hl, List.getElem?_map, hj]; rfl
  have := placesOf_at szs 0 j _ hs
  rw [Nat.zero_add, List.getElem?_toArray, this, ← hl, List.map_take]) (by rw [hl]; omega)
 rw [this]
 congr 1
 rw [hl, List.drop_eq_nil_of_le (by simp; omega)]
 simp
theorem zip_parts {ps : Array (Nat × Operand)} {len : Nat} {ev : Operand → Value} (hi : ps.toList.map (·.1) = List.range len) : (ps.map fun (i, x) => (i, ev x)).toList = ((ps.toList.map (·.2)).map ev).zipIdx.map fun p => (p.2, p.1) := by
 rw [Array.toList_map]
 apply List.ext_getElem?
 intro j
 have hj : (ps.toList.map (·.1))[j]? = (List.range len)[j]? := by rw [hi]
 have hlen : ps.toList.length = len := by have := congrArg List.length hi; simpa using this
 simp only [List.getElem?_map, List.getElem?_zipIdx, Nat.zero_add] at hj ⊢
 cases hp : ps.toList[j]? with
 | none => simp
 | some p =>
  simp only [hp, Option.map_some] at hj ⊢
  have hlt : j < len := by rw [← hlen]; exact (List.getElem?_eq_some_iff.1 hp).1
  simp only [List.getElem?_range hlt, Option.some.injEq] at hj
  obtain ⟨p1, p2⟩ := p
  simp only at hj
  subst hj
  rfl
theorem step_build {d : Nat} {T : TypeId} {szs : List Nat} {ps : Array (Nat × Operand)} {rd : List Nat} {dss : List (List D)} {up : List (Nat × AV)} {ty pos aft g} [hT : BuildTy P T szs] (h : GivesV st (ps.toList.map (·.2)) rd dss up) (hi : ps.toList.map (·.1) = List.range szs.length) (hl : dss.map List.length = szs) (hd : n d = true) :
  Step P n ⟨some d, .build T ps, ty, pos, aft, g⟩ nid st rd (up ++ [(d, .agg (dss.flatten.map AV.raw))]) := by
 intro X st' hs hX f a w hn hrep K Q hK
 obtain ⟨ρ, L, hr⟩ := hrep
 subst hn
 obtain ⟨r, L', M1, hm, hv, hlen⟩ := hr.toM.givesV (h.agree hs) 0
 rw [puts_append] at hK
 rw [List.nil_append] at hm
 have hrun := run_build_seq (P := P) (T := T) (szs := szs) w (ps.map fun (i, x) => (i, a.eval x)) ((ps.toList.map (·.2)).map a.eval) (zip_parts hi) (by rw [List.map_map, ← hl, ← hlen, List.map_map, List.map_map]; rfl)
 have hus : ((ps.toList.map (·.2)).map fun x => (a.eval x).cells.toList) = (((ps.toList.map (·.2)).map a.eval).map fun u => u.cells.toList) := by rw [List.map_map, List.map_map, List.map_map]; rfl
 rw [hus] at hv
 refine wV_ (u := .agg (((ps.toList.map (·.2)).map a.eval).map fun u => u.cells.toList).flatten.toArray) (w' := w) ?_ (hm.put_raw (id := nid) (K := K) hK hd _ w [] (by simp) (Keep.refl w) M1 ?_ hm.nd (fun g hg => ⟨(hm.bound g hg).1, .inl hg⟩) ?_)
 ·simp only [execOp, Sem.run_bind]
  rw [hrun]
  rfl
 ·simp only [SR]
  exact ⟨_, rfl, SRs_raws _ 0 r _ _ hv⟩
 ·simp only [AV.ids, idss_raws]; simp
theorem step_slice_agg {d len sz : Nat} {T : TypeId} {ps : Array (Nat × Operand)} {rd : List Nat} {dss : List (List D)} {up : List (Nat × AV)} {ty pos aft g} [hT : SliceTy P T sz] (h : GivesV st (ps.toList.map (·.2)) rd dss up) (hi : ps.toList.map (·.1) = List.range len) (hl : dss.map List.length = List.replicate len sz) (hlen : len ≤ 1000) (hpos : 0 < len) (hd : n d = true) :
  Step P n ⟨some d, .buildSlice T len ps, ty, pos, aft, g⟩ nid st rd (up ++ [(d, .own nid (.sl true sz dss.flatten))]) := by
 intro X st' hs hX f a w hn hrep K Q hK
 obtain ⟨ρ, L, hr⟩ := hrep
 subst hn
 obtain ⟨r, L', M1, hm, hv, hll⟩ := hr.toM.givesV (h.agree hs) 0
 rw [puts_append] at hK
 rw [List.nil_append] at hm
 obtain ⟨e, i, z, t1, t2, t3, t6, t7, _, t4, t5⟩ := hT.out
 have hvl := hv.length
 have hus : ((ps.toList.map (·.2)).map fun x => (a.eval x).cells.toList) = (((ps.toList.map (·.2)).map a.eval).map fun u => u.cells.toList) := by rw [List.map_map, List.map_map, List.map_map]; rfl
 have hlens : (((ps.toList.map (·.2)).map a.eval).map fun u => u.cells.toList.length) = List.replicate len sz := by rw [List.map_map, ← hl, ← hll, List.map_map, List.map_map]; rfl
 rw [hus] at hv hvl
 have hparts := zip_parts (ps := ps) (len := len) (ev := a.eval) hi
 generalize hvs : (ps.toList.map (·.2)).map a.eval = vs at *
 have hsum : (vs.map fun u => u.cells.toList.length).sum = len * sz := by rw [hlens]; simp
 generalize hcs : (vs.map fun u => u.cells.toList).flatten = us at *
 have hul : us.length = len * sz := by rw [← hcs, List.length_flatten, List.map_map, ← hsum]; rfl
 have hsame : ∀ g, g < w.heap.size → Same w (w.alloc (.cells us.toArray e)) g := fun g hg => Below.heap_alloc w _ g hg
 have hpz : 0 < len * sz := Nat.mul_pos hpos t6
 have hle : len * sz ≤ 16000 := by
  have := Nat.mul_le_mul hlen t7
  omega
 have hfill : Instr.fill (fun k => some (k * sz, sz)) ((Array.range (len * sz)).map (fun x => z.cells[x % z.cells.size]!)) (vs.zipIdx.map fun p => (p.2, p.1)) = some us.toArray := by
  have := fill_seq (fun k => some (k * sz, sz)) vs 0 0 ((Array.range (len * sz)).map (fun x => z.cells[x % z.cells.size]!)) (fun j v hj => by
   have h1 : (vs.map fun u => u.cells.toList.length)[j]? = some v.cells.toList.length := by rw [List.getElem?_map, hj]; rfl
   rw [hlens, List.getElem?_replicate] at h1
   split at h1
   ·rename_i hjl
    have h2 : ((vs.take j).map fun u => u.cells.toList.length).sum = j * sz := by
     rw [List.map_take, hlens, List.take_replicate, Nat.min_eq_left (by omega)]; simp
    rw [h2, Nat.zero_add, Nat.zero_add, ← Option.some.inj h1]
   ·cases h1) (by rw [hsum]; simp)
  rw [this, hsum, hcs]
  congr 1
  rw [List.drop_eq_nil_of_le (by simp)]
  simp
 have hrun : (Instr.buildSlice T len (ps.map fun (i, x) => (i, a.eval x))).run P w = .ok (.slice (some ⟨w.heap.size, 0, none⟩) len len) (w.alloc (.cells us.toArray e)) := by
  have hparts' : ps.toList.map (fun x => (x.fst, a.eval x.snd)) = vs.zipIdx.map fun p => (p.2, p.1) := by rw [← hparts, Array.toList_map]
  simp [Instr.buildSlice, run_underlying t1, sizeOf, typeInfo, zeroValue, t2, t3, t4, hparts', newRow, show ¬ (len * sz = 0) from by omega, show ¬ (16777216 < len * sz) from by omega, hfill, show ¬ len = 0 from by omega, show ¬ sz = 0 from by omega]
 refine wV_ (u := .slice (some ⟨w.heap.size, 0, none⟩) len len) (w' := w.alloc (.cells us.toArray e)) ?_
  (hm.put_root hK hd hX _ _ [] (by simp) (Keep.alloc w _) (fun π => match π with | [] => .slice (some ⟨w.heap.size, 0, none⟩) len len | j :: q => r (j :: q)) (w.heap.size :: M1) ?_ ?_ ?_)
 ·simp only [execOp, Sem.run_bind, hrun, Result.andThen_ok, Sem.run_pure]
 ·simp only [RD]
  refine ⟨trivial, us, [w.heap.size], M1, rfl, .mk0 ⟨w.heap.size, len, len, us.toArray, e, rfl, alloc_new w _, hul.symm, Nat.le_refl _, by unfold maxLen; omega, by simpa using hul, ?_, rfl⟩, ?_⟩
  ·exact List.take_of_length_le (by simp; omega)
  ·exact RDs.rho _ 0 r _ us M1 (RDs.same (fun _ h => h) (fun g hg => hsame g (hm.rep.F_lt hg)) _ 0 r us M1 hv (fun g hg => hsame g (hm.bound g hg).1)) (fun j _ => rfl)
 ·rw [List.nodup_cons]
  exact ⟨fun hg => by have := (hm.bound _ hg).1; omega, hm.nd⟩
 ·intro g hg
  rw [List.mem_cons] at hg
  rcases hg with rfl | hg
  ·exact ⟨by simp, .inr (Nat.le_refl _)⟩
  ·exact ⟨by simp; have := (hm.bound g hg).1; omega, .inl hg⟩
theorem drop_take1 {α : Type} {l : List α} {i : Nat} {c : α} (h : l[i]? = some c) : (l.drop i).take 1 = [c] := by
 obtain ⟨hlt, rfl⟩ := List.getElem?_eq_some_iff.1 h
 rw [List.drop_eq_getElem_cons hlt]; rfl
theorem step_loads1_ptr {d t x id off : Nat} {path : List Nat} {T : TypeId} {dd d1 c : D} {cs : List D} {ty pos aft g} [StructTy P T 1] (h : st t = .ptr x id path off) (hx : st x = .own id dd) (hn' : dd.nav path = some d1) (hk : d1.kids = some cs) (hc : cs[off]? = some c) (hd : n d = true) :
  Step P n ⟨some d, .load T (.tmp t), ty, pos, aft, g⟩ nid st [t, x] [(d, .agg [cellAV x id (path ++ [off]) c])] := by
 have := step_loads_p (P := P) (n := n) (nid := nid) (T := T) (d := d) (ty := ty) (pos := pos) (aft := aft) (g := g) (.ptr h hx) hn' hk (by have := (List.getElem?_eq_some_iff.1 hc).1; omega) (by decide) hd
 rwa [drop_take1 hc] at this
theorem step_loads1_sh {d t off : Nat} {T : TypeId} {c : D} {cs : List D} {ty pos aft g} [StructTy P T 1] (h : st t = .sptr cs off) (hc : cs[off]? = some c) (hd : n d = true) :
  Step P n ⟨some d, .load T (.tmp t), ty, pos, aft, g⟩ nid st [t] [(d, .agg [.c c])] := by
 have := step_loads_sh (P := P) (n := n) (nid := nid) (T := T) (d := d) (ty := ty) (pos := pos) (aft := aft) (g := g) h (by have := (List.getElem?_eq_some_iff.1 hc).1; omega) hd
 rwa [drop_take1 hc] at this
theorem BuildTy.of {T : TypeId} {szs : List Nat} {z : Value} {fs : Array Field} (hu : P.underlying T = some (.struct fs)) (hz : (P.info? T).map (·.zero) = some (some z)) (hp : (fs.toList.mapM fun f => (P.info? f.type).map fun i => (f.offset, i.size)) = some (placesOf szs 0)) (hs : z.cells.size = szs.sum) : BuildTy P T szs := ⟨z, fs, hz, hu, hp, hs⟩
end
end Go.Pv
