/- More steps: loading and storing through a root, storing what is owned, and slices made by their length. No condition. -/
import Derived.Test.YtpeioofkihpldaaDoorNPvL
import Derived.Laws.IdiomCopy
import Derived.Deep.OwnRows
set_option linter.unusedVariables false
set_option linter.unusedSimpArgs false
namespace Go.Pv
open Go.RowKit
section
variable {P : Program} {n : NN} {nid : Nat} {st : Nat → AV} {nx : Nat}
theorem put_eq_self {st : Nat → AV} {t : Nat} {v : AV} (h : st t = v) : put st t v = st := by
 funext s; unfold put; split
 ·rename_i e; subst e; exact h.symm
 ·rfl
theorem int_eq {k : IntKind} {a b : Int} (h : a = b) : AV.c (.lit (.int k a)) = AV.c (.lit (.int k b)) := by rw [h]
theorem bool_eq {a b : Bool} (h : a = b) : AV.c (.lit (.bool a)) = AV.c (.lit (.bool b)) := by rw [h]
def lits (l : List Value) : List D := l.map D.lit
theorem eL_ (l : List Value) : D.erases (lits l) = lits l := by
 unfold lits; rw [D.erases_eq]; simp [D.erase]
theorem solids_lits (l : List Value) : D.solids (lits l) = true := by
 unfold lits
 induction l with
 | nil => rfl
 | cons v l ih => simpa [D.solids, D.solid] using ih
variable {Q : Exit → (Nat → AV) → Nat → Prop}
theorem WpA.cond_true {c : Operand} {x y : Code} (hc : Lit st c (.bool true)) (h : WpA P n x st nx Q) : WpA P n (.cond c x y) st nx Q :=
 WpA.cond hc (fun _ => h) (fun h => by cases h)
theorem WpA.cond_false {c : Operand} {x y : Code} (hc : Lit st c (.bool false)) (h : WpA P n y st nx Q) : WpA P n (.cond c x y) st nx Q :=
 WpA.cond hc (fun h => by cases h) (fun _ => h)
theorem WpA.cond_ntrue {c : Operand} {x y : Code} (hc : Lit st c (.bool (!true))) (h : WpA P n y st nx Q) : WpA P n (.cond c x y) st nx Q :=
 WpA.cond hc (fun h => by cases h) (fun _ => h)
theorem WpA.cond_dec {c : Operand} {x y : Code} {p : Prop} {hp : Decidable p} (hc : Lit st c (.bool (@decide p hp))) (h1 : p → WpA P n x st nx Q) (h2 : ¬ p → WpA P n y st nx Q) : WpA P n (.cond c x y) st nx Q :=
 WpA.cond hc (fun h => h1 (of_decide_eq_true h)) (fun h => h2 (of_decide_eq_false h))
theorem WpA.cond_not {c : Operand} {x y : Code} {p : Prop} {hp : Decidable p} (hc : Lit st c (.bool (!@decide p hp))) (h1 : ¬ p → WpA P n x st nx Q) (h2 : p → WpA P n y st nx Q) : WpA P n (.cond c x y) st nx Q :=
 WpA.cond hc (fun h => h1 (of_decide_eq_false (by simpa using h))) (fun h => h2 (of_decide_eq_true (by simpa using h)))
def Done (P : Program) (fn : Func) (args : List Arg) (rs : List V) (outs : List D) (e : Exit) (s : Nat → AV) (_ : Nat) : Prop :=
 (e = .normal ∨ e = .ret) ∧ ∃ s', Ress P s fn.results.toList rs s' ∧ Outs s' 0 args outs
theorem Done.ret {fn : Func} {args : List Arg} {rs rs' : List V} {outs outs' : List D} {s s' : Nat → AV} {k : Nat} (hr : Ress P s fn.results.toList rs' s') (ho : Outs s' 0 args outs') (h : rs' = rs) (h' : outs' = outs) : Done P fn args rs outs .ret s k := by
 subst h h'; exact ⟨.inr rfl, s', hr, ho⟩
theorem Done.normal {fn : Func} {args : List Arg} {rs rs' : List V} {outs outs' : List D} {s s' : Nat → AV} {k : Nat} (hr : Ress P s fn.results.toList rs' s') (ho : Outs s' 0 args outs') (h : rs' = rs) (h' : outs' = outs) : Done P fn args rs outs .normal s k := by
 subst h h'; exact ⟨.inl rfl, s', hr, ho⟩
theorem cA_ {K : FuncId} {fn : Func} {c : Code} {args : List Arg} {rs : List V} {outs : List D} (m : Nat) (hf : P.funcs[K]? = some fn) (hb : fn.body = some c) (hm : fn.ntmps = m)
  (hs : rs.all V.solid = true ∧ D.solids outs = true) (h : WpA P ⟨fun d => decide (d < m) && !((heldOf 0 args).contains d), [], [], []⟩ c (initSt args) args.length (Done P fn args rs outs)) : CallA P K args rs outs :=
 callG_of (n := ⟨fun d => decide (d < m) && !((heldOf 0 args).contains d), [], [], []⟩) hf hb (fun d hd => by
  rw [hm]; simp only [Bool.and_eq_true, decide_eq_true_eq] at hd; exact hd.1) (fun p hp => by simp [hp]) rfl rfl (.inl ⟨rfl, rfl⟩) (fun _ => hs) h
theorem callT_of {Z : (Nat → Prop) → World → Prop} {R0 : List (Nat × Rho)} (hR0 : ∀ F w, Z F w → ∀ q ∈ R0, q.1 = tabId ∧ TabAt F w q) {K : FuncId} {fn : Func} {c : Code} {args : List Arg} {rs : List V} {outs : List D} (m : Nat) (hf : P.funcs[K]? = some fn) (hb : fn.body = some c) (hm : fn.ntmps = m)
  (hs : rs.all V.solid = true ∧ D.solids outs = true) (h : WpA P ⟨fun d => decide (d < m) && !((heldOf 0 args).contains d), [], R0, []⟩ c (initSt args) args.length (Done P fn args rs outs)) : CallZ Z true P K args rs outs :=
 callZ_of (n := ⟨fun d => decide (d < m) && !((heldOf 0 args).contains d), [], R0, []⟩) hf hb (fun d hd => by
  rw [hm]; simp only [Bool.and_eq_true, decide_eq_true_eq] at hd; exact hd.1) (fun p hp => by simp [hp]) rfl hR0 (.inl ⟨rfl, rfl⟩) (fun _ => hs) h
theorem step_move_als {d t x id : Nat} {path : List Nat} {ty pos aft g} (h : st t = .als x id path) (hd : n d = true) : Step P n ⟨some d, .move (.tmp t), ty, pos, aft, g⟩ nid st [t] [(d, .als x id path)] := step_move_light h rfl hd
theorem step_assign_als {d t x id : Nat} {path : List Nat} {ty pos aft g} (h : st t = .als x id path) (hd : n d = true) : Step P n ⟨some d, .assign (.tmp t), ty, pos, aft, g⟩ nid st [t] [(d, .als x id path)] := step_assign_light h rfl hd
theorem step_assign_nil {d sz : Nat} {T : TypeId} {pos aft g} [SliceTy P T sz] (hd : n d = true) : Step P n ⟨some d, .assign (.const (.slice none 0 0)), T, pos, aft, g⟩ nid st [] [(d, .own nid (.sl true sz []))] :=
 step_assign_take .nil hd
end
end Go.Pv
namespace Go.Pv
open Go.RowKit
inductive Pts (st : Nat → AV) : Nat → List Nat → Nat → Nat → D → List Nat → Nat → Prop
 | ptr {t x id path off dd} : st t = .ptr x id path off → st x = .own id dd → Pts st t [t, x] x id dd path off
 | root {t id cs} : st t = .own id (.pt true cs) → Pts st t [t] t id (.pt true cs) [] 0
section
variable {P : Program} {n : NN} {nid : Nat} {st : Nat → AV} {f : Fr} {X : Nat → Prop} {a : Act} {w : World} {ρ : Nat → Rho} {L : Nat → List Nat} {M : List Nat}
theorem Pts.own {t x id off : Nat} {rd path : List Nat} {dd : D} (h : Pts st t rd x id dd path off) : st x = .own id dd := by cases h <;> assumption
theorem Pts.agree {st' : Nat → AV} {t x id off : Nat} {rd path : List Nat} {dd : D} (h : Pts st t rd x id dd path off) (hs : ∀ s ∈ rd, st' s = st s) : Pts st' t rd x id dd path off := by
 cases h with
 | ptr h1 h2 => exact .ptr ((hs _ (by simp)).trans h1) ((hs _ (by simp)).trans h2)
 | root h1 => exact .root ((hs _ (by simp)).trans h1)
theorem Pts.addr (hr : RepO f X st a w ρ L) {t x id off : Nat} {rd path : List Nat} {dd : D} (h : Pts st t rd x id dd path off) : X id ∧ ∃ b, baseOf (ρ id path) = some b ∧ a.eval (.tmp t) = .pointer (some (b.add off)) := by
 cases h with
 | ptr h1 h2 =>
  have ht := hr.slots t
  have hi := hr.ids t id (by rw [h1]; simp [AV.ids])
  rw [h1] at ht
  simp only [SR] at ht
  obtain ⟨_, b, hb, e⟩ := ht
  exact ⟨hi, b, hb, e⟩
 | root h1 =>
  have ht := hr.slots t
  have hi := hr.ids t id (by rw [h1]; simp [AV.ids])
  rw [h1] at ht
  simp only [SR, RD] at ht
  obtain ⟨e, g, us, L1, ty, e1, _⟩ := ht
  refine ⟨hi, ⟨g, 0, none⟩, by rw [← e, e1]; rfl, ?_⟩
  show tmp a t = _
  rw [e1, add_zero']
theorem step_loads_p {d t x id off sz : Nat} {rd path : List Nat} {T : TypeId} {dd d1 : D} {cs : List D} {ty pos aft g} [StructTy P T sz] (h : Pts st t rd x id dd path off) (hn' : dd.nav path = some d1) (hk : d1.kids = some cs) (hc : off + sz ≤ cs.length) (hz : 0 < sz) (hd : n d = true) :
  Step P n ⟨some d, .load T (.tmp t), ty, pos, aft, g⟩ nid st rd [(d, .agg (cellAVs x id path off ((cs.drop off).take sz)))] := by
 intro X st' hs hX f a w hn hrep K Q hK
 obtain ⟨ρ, L, hr⟩ := hrep
 subst hn
 have h' := h.agree hs
 obtain ⟨hid, b, hb, e0⟩ := h'.addr hr
 obtain ⟨g0, o0, us, L1, hb', hg, hL1, h5, h6, _⟩ := hr.partKids h'.own hn' hk (by rintro rfl; simp at hc; omega)
 rw [hb] at hb'
 simp only [Option.some.injEq] at hb'
 subst hb'
 have hl := h5.length
 obtain ⟨M', h7⟩ := RDs.part off cs 0 _ us L1 h5 (by omega)
 obtain ⟨M2, h8⟩ := RDs.takeM sz _ _ _ _ _ h7
 rw [Nat.zero_add] at h8
 refine wV_ (u := .agg ((us.drop off).take sz).toArray) (w' := w) ?_ (hr.done_light hK hd _ w (Keep.refl w) ?_ (fun i hi => ?_))
 ·simp only [execOp, e0, Sem.run_bind]
  rw [run_load_struct (T := T) w _ ((us.drop off).take sz) (by rw [List.length_take, List.length_drop]; omega) (fun j u hu => ?_)]
  ·rfl
  ·rw [List.getElem?_take] at hu
   split at hu
   ·rw [List.getElem?_drop] at hu
    rw [add_add, addr_off]
    exact h6 _ u hu
   ·cases hu
 ·simp only [SR]
  exact ⟨_, rfl, SRs_cells _ _ _ _ _ h8 (fun j => by simp [Rho.sub])⟩
 ·simp only [AV.ids] at hi
  rw [cellAVs_ids _ _ i hi]; exact hid
theorem step_loads_root {d t id sz : Nat} {T : TypeId} {cs : List D} {ty pos aft g} [StructTy P T sz] (h : st t = .own id (.pt true cs)) (hc : sz = cs.length) (hz : 0 < sz) (hd : n d = true) :
  Step P n ⟨some d, .load T (.tmp t), ty, pos, aft, g⟩ nid st [t] [(d, .agg (cellAVs t id [] 0 cs))] := by
 have := step_loads_p (P := P) (n := n) (nid := nid) (T := T) (d := d) (ty := ty) (pos := pos) (aft := aft) (g := g) (.root h) rfl rfl (by omega) hz hd
 rwa [List.drop_zero, hc, List.take_length] at this
inductive GiveE (st : Nat → AV) : AV → List Nat → D → List (Nat × AV) → Prop
 | c {d} : GiveE st (.c d) [] d []
 | part {x id k path dd sz cs} : st x = .own id dd → dd.nav (k :: path) = some (.sl true sz cs) → GiveE st (.als x id (k :: path)) [x] (.sl true sz cs) [(x, .own id (dd.put (k :: path) .hole))]
inductive GivesE : (Nat → AV) → List AV → List Nat → List D → List (Nat × AV) → Prop
 | nil {s0} : GivesE s0 [] [] [] []
 | cons {s0 x xs rd rds d ds up ups} : GiveE s0 x rd d up → GivesE (puts s0 up) xs rds ds ups → GivesE s0 (x :: xs) (rd ++ rds) (d :: ds) (up ++ ups)
inductive GiveV (st : Nat → AV) : Operand → List Nat → List D → List (Nat × AV) → Prop
 | one {x rd d up} : Give st x rd d up → GiveV st x rd [d] up
 | agg {t l ds} : st t = .agg l → AV.dats l = some ds → GiveV st (.tmp t) [t] ds [(t, .dead)]
 | parts {t l rd ds up} : st t = .agg l → GivesE st l rd ds up → GiveV st (.tmp t) (t :: rd) ds up
theorem GiveE.agree {st' : Nat → AV} {x : AV} {rd : List Nat} {d : D} {up : List (Nat × AV)} (h : GiveE st x rd d up) (hs : ∀ s ∈ rd, st' s = st s) : GiveE st' x rd d up := by
 cases h with
 | c => exact .c
 | part h1 h2 => exact .part ((hs _ (by simp)).trans h1) h2
theorem GivesE.agree : ∀ {st st' : Nat → AV} {xs : List AV} {rd : List Nat} {ds : List D} {up : List (Nat × AV)}, GivesE st xs rd ds up → (∀ s ∈ rd, st' s = st s) → GivesE st' xs rd ds up
 | _, _, _, _, _, _, .nil, _ => .nil
 | _, _, _, _, _, _, .cons h1 h2, hs => .cons (h1.agree fun s hs' => hs s (by simp [hs'])) (GivesE.agree h2 fun s hs' => puts_agree _ _ (hs s (by simp [hs'])))
theorem GiveV.agree {st' : Nat → AV} {x : Operand} {rd : List Nat} {ds : List D} {up : List (Nat × AV)} (h : GiveV st x rd ds up) (hs : ∀ s ∈ rd, st' s = st s) : GiveV st' x rd ds up := by
 cases h with
 | one h => exact .one (h.agree hs)
 | agg h1 h2 => exact .agg ((hs _ (by simp)).trans h1) h2
 | parts h1 h2 => exact .parts ((hs _ (by simp)).trans h1) (h2.agree fun s h => hs s (List.mem_cons_of_mem _ h))
theorem RepM.giveE (h : RepM f X st a w ρ L M) {x : AV} {rd : List Nat} {d : D} {up : List (Nat × AV)} (hg : GiveE st x rd d up) {v : Value} (hv : SR f.F w ρ x v []) :
  ∃ r L' M1, RepM f X (puts st up) a w ρ L' (M ++ M1) ∧ RD f.F w d r v M1 := by
 cases hg with
 | c =>
  simp only [SR] at hv
  obtain ⟨_, r, hr⟩ := hv
  exact ⟨r, L, [], by simpa [puts] using h, hr⟩
 | @part x id k path dd sz cs hx hn =>
  have hi := h.rep.ids x
  rw [hx] at hi
  simp only [SR] at hv
  obtain ⟨v1, A, L1, B, eL, h3, hset⟩ := h.rep.part hx hn
  have hv1 : v1 = ρ id (k :: path) := by
   have := h3
   simp only [RD] at this
   rw [this.1, Rho.sub_nil]
  have e : v = v1 := by rw [hv1]; exact hv.2
  have hfin := hset w .hole ((ρ id).sub (k :: path)) [] (fun _ _ => rfl) (fun _ _ => rfl) (by simp only [RD]; exact ⟨by rw [Rho.sub_nil]; exact hv1, h3.one, trivial⟩)
  rw [Rho.set_sub] at hfin
  have hnd := h.rep.nodup x
  rw [eL] at hnd
  simp only [List.nodup_append, List.mem_append] at hnd
  rw [e]
  refine ⟨_, _, L1, h.detach x (.own id (dd.put (k :: path) .hole)) (A ++ ([] ++ B)) L1 (by simp only [SR]; exact hfin) (by simpa [AV.ids] using hi) (fun g hg => ?_) ?_ hnd.2.1.1 (fun g hg hg' => ?_), h3⟩
  ·rw [eL]; simp only [List.nil_append, List.mem_append] at hg ⊢; grind
  ·simp only [List.nil_append, List.nodup_append]; grind
  ·simp only [List.nil_append, List.mem_append] at hg; grind
theorem RepM.givesE : ∀ {xs : List AV} {st : Nat → AV} {L : Nat → List Nat} {M : List Nat}, RepM f X st a w ρ L M → ∀ {rd : List Nat} {ds : List D} {up : List (Nat × AV)}, GivesE st xs rd ds up → ∀ (k : Nat) {vs : List Value} {L0 : List Nat}, SRs f.F w ρ xs vs L0 →
  ∃ r L' M1, RepM f X (puts st up) a w ρ L' (M ++ M1) ∧ RDs f.F w ds k r vs M1
 | [], st, L, M, h, _, _, _, .nil, k, vs, L0, hv => by
  simp only [SRs] at hv
  obtain ⟨rfl, _⟩ := hv
  exact ⟨fun _ => undef, L, [], by simpa [puts] using h, by simp [RDs]⟩
 | x :: xs, st, L, M, h, _, _, _, .cons (d := d) (ds := ds) h1 h2, k, vs, L0, hv => by
  simp only [SRs] at hv
  obtain ⟨v, vs', La, Lb, rfl, _, hv1, hv2⟩ := hv
  have hLa : La = [] := by
   cases h1 with
   | c => simp only [SR] at hv1; exact hv1.1
   | part _ _ => simp only [SR] at hv1; exact hv1.1
  subst hLa
  obtain ⟨r1, L1, M1, hm1, hr1⟩ := h.giveE h1 hv1
  obtain ⟨r2, L2, M2, hm2, hr2⟩ := RepM.givesE hm1 h2 (k + 1) hv2
  refine ⟨(fun π => match π with | [] => undef | j :: q => if j = k then r1 q else r2 (j :: q)), L2, M1 ++ M2, ?_, ?_⟩
  ·rw [puts_append, ← List.append_assoc]; exact hm2
  ·simp only [RDs]
   refine ⟨_, _, M1, M2, rfl, rfl, ?_, ?_⟩
   ·refine RD.rho d r1 _ _ M1 hr1 (fun π => by simp [Rho.at])
   ·refine RDs.rho ds (k + 1) r2 _ _ M2 hr2 (fun j hj => ?_)
    funext π
    simp [Rho.at, show j ≠ k from by omega]
theorem RepO.giveV (h : RepO f X st a w ρ L) {x : Operand} {rd : List Nat} {ds : List D} {up : List (Nat × AV)} (hg : GiveV st x rd ds up) :
  ∃ r L' M1 us, RepM f X (puts st up) a w ρ L' M1 ∧ (a.eval x).cells.toList = us ∧ RDs f.F w ds 0 r us M1 := by
 cases hg with
 | one hg =>
  obtain ⟨r, L', M1, hm, hr⟩ := h.toM.give hg
  rw [List.nil_append] at hm
  refine ⟨fun π => match π with | [] => undef | j :: q => r q, L', M1, [a.eval x], hm, by rw [oneCell_cells hr.one], ?_⟩
  simp only [RDs]
  exact ⟨_, _, M1, [], rfl, by simp, RD.rho _ r _ _ _ hr (fun π => by simp [Rho.at]), rfl, rfl⟩
 | @agg t l ds ht hl =>
  have h1 := h.slots t
  rw [ht] at h1
  simp only [SR] at h1
  obtain ⟨vs, e0, h1⟩ := h1
  obtain ⟨r, h2⟩ := h1.dats l _ 0 vs (L t) hl
  have hm := h.toM.detach t .dead [] (L t) (by simp only [SR]) (by simp [AV.ids]) (fun g hg => by simpa using hg) List.nodup_nil (h.nodup t) (by simp)
  rw [List.nil_append] at hm
  exact ⟨r, _, L t, vs, hm, by rw [show a.eval (.tmp t) = _ from e0]; simp [Value.cells], h2⟩
 | @parts t l rd ds up ht hl =>
  have h1 := h.slots t
  rw [ht] at h1
  simp only [SR] at h1
  obtain ⟨vs, e0, h1⟩ := h1
  obtain ⟨r, L', M1, hm, h2⟩ := h.toM.givesE hl 0 h1
  rw [List.nil_append] at hm
  exact ⟨r, L', M1, vs, hm, by rw [show a.eval (.tmp t) = _ from e0]; simp [Value.cells], h2⟩
def D.over : List D → Nat → List D → List D
 | cs, _, [] => cs
 | cs, j, d :: ds => D.over (cs.set j d) (j + 1) ds
theorem kids_with {d : D} {cs cs' : List D} (h : d.kids = some cs) : (d.withKids cs').kids = some cs' := by
 cases d with
 | lit v => simp [D.kids] at h
 | hole => simp [D.kids] at h
 | fn g c => simp [D.kids] at h
 | sl own sz c => cases own <;> simp [D.kids, D.withKids] at h ⊢
 | pt own c => cases own <;> simp [D.kids, D.withKids] at h ⊢
theorem with_with {d : D} {cs cs' cs'' : List D} (h : d.kids = some cs) : (d.withKids cs').withKids cs'' = d.withKids cs'' := by
 cases d with
 | lit v => simp [D.kids] at h
 | hole => simp [D.kids] at h
 | fn g c => simp [D.kids] at h
 | sl own sz c => cases own <;> simp [D.kids, D.withKids] at h ⊢
 | pt own c => cases own <;> simp [D.kids, D.withKids] at h ⊢
theorem with_kids {d : D} {cs : List D} (h : d.kids = some cs) : d.withKids cs = d := by
 cases d with
 | lit v => simp [D.kids] at h
 | hole => simp [D.kids] at h
 | fn g c => simp [D.kids] at h
 | sl own sz c => cases own <;> simp [D.kids, D.withKids] at h ⊢; exact h.symm
 | pt own c => cases own <;> simp [D.kids, D.withKids] at h ⊢; exact h.symm
theorem RD.stores {F : Nat → Prop} {g o : Nat} : ∀ {ds : List D} {w : World} {k : Nat} {r : Rho} {us : List Value} {M : List Nat}, RDs F w ds k r us M → M.Nodup → (∀ g ∈ M, ¬ F g) →
  ∀ {j : Nat} {d1 : D} {cs : List D} {ρ : Rho} {v : Value} {L1 : List Nat}, RD F w d1 ρ v L1 → d1.kids = some cs → j + ds.length ≤ cs.length → L1.Nodup → (∀ g ∈ L1, ¬ F g) → (∀ x ∈ L1, x ∉ M) → baseOf v = some ⟨g, o, none⟩ → g ∈ L1 →
  ∃ ρ' L', (∀ i, i < ds.length → (∃ u, w.cell? ⟨g, o + j + i, none⟩ = some u) ∧ w.frozen? ⟨g, o + j + i, none⟩ = false) ∧ RD F (w.setCells g (o + j) us) (d1.withKids (D.over cs j ds)) ρ' v L' ∧ L'.Nodup ∧ (∀ x ∈ L', x ∈ L1 ∨ x ∈ M) ∧ g ∈ L' ∧
   (∀ g', g' ≠ g → (w.setCells g (o + j) us).heap[g']? = w.heap[g']?) ∧ (w.setCells g (o + j) us).heap.size = w.heap.size ∧ Keep w [g] (w.setCells g (o + j) us)
 | [], w, k, r, us, M, h, _, _, j, d1, cs, ρ, v, L1, h1, hk, hj, hn, hF, hd, hb, hg => by
  simp only [RDs] at h
  obtain ⟨rfl, rfl⟩ := h
  refine ⟨ρ, L1, fun i hi => by simp at hi, ?_, hn, fun x hx => .inl hx, hg, fun _ _ => rfl, rfl, ⟨rfl, rfl, rfl, Nat.le_refl _, fun _ _ _ => rfl, fun _ => Nat.le_refl _⟩⟩
  simp only [D.over, World.setCells]
  rw [with_kids hk]; exact h1
 | d :: ds, w, k, r, us, M, h, hMn, hMF, j, d1, cs, ρ, v, L1, h1, hk, hj, hn, hF, hd, hb, hg => by
  simp only [RDs] at h
  obtain ⟨u, us', Ma, Mb, rfl, rfl, k1, k2⟩ := h
  have hjlt : j < cs.length := by simp at hj; omega
  obtain ⟨g', o', A, M0, B, hb', rfl, hcell, hfr, hput⟩ := h1.store hk (List.getElem?_eq_getElem hjlt) hn hF
  rw [hb] at hb'
  simp only [Option.some.injEq, Addr.mk.injEq, and_true] at hb'
  obtain ⟨rfl, rfl⟩ := hb'
  have hsame : ∀ g', g' ≠ g → Same w (w.setCell ⟨g, o + j, none⟩ u) g' := fun g' hg' => setCell_heap_other w g (o + j) g' u hg'
  have hFg : ¬ F g := hF g (by simp)
  have hMg : ∀ x ∈ Ma ++ Mb, x ≠ g := fun x hx e => hd g (by simp) (e ▸ hx)
  have k1' := RD.same (fun _ h => h) (fun x hx => hsame x (by rintro rfl; exact hFg hx)) d _ u Ma k1 (fun x hx => hsame x (hMg x (by simp [hx])))
  have k2' := RDs.same (fun _ h => h) (fun x hx => hsame x (by rintro rfl; exact hFg hx)) ds _ _ us' Mb k2 (fun x hx => hsame x (hMg x (by simp [hx])))
  have e1 := hput d _ u Ma k1'
  simp only [List.nodup_append, List.nodup_cons, List.mem_append, not_or] at hn hMn
  have hd' : ∀ x, (x = g ∨ x ∈ A ∨ x ∈ M0 ∨ x ∈ B) → x ∉ Ma ∧ x ∉ Mb := fun x hx => by
   have := hd x (by simp only [List.mem_cons, List.mem_append]; exact hx)
   simpa only [List.mem_append, not_or] using this
  obtain ⟨ρ', L', c1, c2, c3, c4, c5, c6, c7, c8⟩ := RD.stores (g := g) (o := o) k2' hMn.2.1 (fun x hx => hMF x (by simp [hx])) (j := j + 1) e1 (kids_with hk) (by simp at hj ⊢; omega) (by
    simp only [List.nodup_cons, List.nodup_append, List.mem_append, not_or]
    grind) (fun x hx => by
    simp only [List.mem_cons, List.mem_append] at hx
    rcases hx with rfl | hx | hx | hx
    ·exact hFg
    ·exact hF x (by simp [hx])
    ·exact hMF x (by simp [hx])
    ·exact hF x (by simp [hx])) (fun x hx => by
    simp only [List.mem_cons, List.mem_append] at hx
    rcases hx with rfl | hx | hx | hx
    ·exact (hd' x (.inl rfl)).2
    ·exact (hd' x (.inr (.inl hx))).2
    ·exact fun hb => hMn.2.2 x hx x hb rfl
    ·exact (hd' x (.inr (.inr (.inr hx)))).2) hb (by simp)
  rw [with_with hk] at c2
  refine ⟨ρ', L', fun i hi => ?_, c2, c3, fun x hx => ?_, c5, fun g' hg' => ?_, ?_, ?_⟩
  ·cases i with
   | zero => exact ⟨hcell, hfr⟩
   | succ i =>
    obtain ⟨⟨u1, hu1⟩, hf1⟩ := c1 i (by simpa using hi)
    have hjn : j + 1 + i < cs.length := by simp at hj hi; omega
    obtain ⟨g2, o2, _, _, _, hb2, _, hc2, hf2, _⟩ := h1.store (j := j + 1 + i) hk (List.getElem?_eq_getElem hjn) (by simpa only [List.nodup_append, List.nodup_cons, List.mem_append, List.mem_cons, not_or] using hn) hF
    rw [hb] at hb2
    simp only [Option.some.injEq, Addr.mk.injEq, and_true] at hb2
    obtain ⟨rfl, rfl⟩ := hb2
    rw [show o + j + (i + 1) = o + (j + 1 + i) by omega]
    exact ⟨hc2, hf2⟩
  ·have := c4 x hx
   simp only [List.mem_cons, List.mem_append] at this ⊢
   grind
  ·simp only [World.setCells]
   rw [show o + j + 1 = o + (j + 1) from rfl, c6 g' hg', setCell_heap_other w g (o + j) g' u hg']
  ·simp only [World.setCells]
   rw [show o + j + 1 = o + (j + 1) from rfl, c7]; simp [World.setCell]
  ·simp only [World.setCells]
   exact (Keep.setCell w g (o + j) u).trans c8 (fun x hx _ => hx)
class SizeTy (P : Program) (T : TypeId) (m : outParam Nat) : Prop where
 out : ∃ i, P.info? T = some i ∧ i.size = m
instance {T : TypeId} [h : OneTy P T] : SizeTy P T 1 := let ⟨_, i, _, _, h3, h4⟩ := h.out; ⟨i, h3, h4⟩
instance {T : TypeId} {sz : Nat} [h : StructTy P T sz] : SizeTy P T sz := let ⟨_, i, _, h3, h4⟩ := h.out; ⟨i, h3, h4⟩
theorem run_store_cells {T : TypeId} {m : Nat} [hT : SizeTy P T m] (w : World) (g j : Nat) (v : Value) (hl : v.cells.toList.length = m) (hc : ∀ i, i < m → (∃ u, w.cell? ⟨g, j + i, none⟩ = some u) ∧ w.frozen? ⟨g, j + i, none⟩ = false) (h1 : ∀ u ∈ v.cells.toList, u.oneCell' = true) :
  (Instr.storeAt T (.pointer (some ⟨g, j, none⟩)) v).run P w = .ok () (w.setCells g j v.cells.toList) := by
 obtain ⟨i, t1, t2⟩ := hT.out
 have := run_storeCells_cells (P := P) g j v.cells.toList 0 w (fun k hk => by rw [Nat.add_zero]; obtain ⟨⟨u, hu⟩, _⟩ := hc k (by omega); simp [hu]) (fun k hk => by rw [Nat.add_zero]; exact (hc k (by omega)).2) h1
 have hsz : v.cells.size = i.size := by rw [← Array.length_toList]; omega
 simp [Instr.storeAt, Instr.sureAddr, storeVar, sizeOf, typeInfo, t1, hsz, this]
theorem step_stores {t x id off : Nat} {path rd rd0 : List Nat} {xv : Operand} {T : TypeId} {dd d1 : D} {cs ds : List D} {up : List (Nat × AV)} {ty pos aft g} (hg : GiveV st xv rd ds up) (hp : Pts (puts st up) t rd0 x id dd path off) (hn' : dd.nav path = some d1) (hk : d1.kids = some cs)
  {m : Nat} [hT : SizeTy P T m] (hm0 : ds.length = m) (hlen : off + ds.length ≤ cs.length) (hz : ds ≠ []) :
  Step P n ⟨none, .store T (.tmp t) xv, ty, pos, aft, g⟩ nid st (rd ++ rd0) (up ++ [(x, .own nid (dd.put path (d1.withKids (D.over cs off ds))))]) := by
 intro X st' hs hX f a w hn hrep K Q hK
 obtain ⟨ρ, L, hr⟩ := hrep
 subst hn
 obtain ⟨r, L', M1, us, hm, hus, hv⟩ := hr.giveV (hg.agree fun s h => hs s (by simp [h]))
 have hp' := hp.agree (st' := puts st' up) fun s h => puts_agree _ _ (hs s (by simp [h]))
 rw [puts_append] at hK
 have h0 := hm.rep
 obtain ⟨hid, b, hb, e0⟩ := hp'.addr h0
 have hcs : cs ≠ [] := by rintro rfl; exact hz (List.eq_nil_of_length_eq_zero (by have := hlen; simp only [List.length_nil] at this; omega))
 obtain ⟨g0, o0, _, _, hb', hg0, _⟩ := h0.partKids hp'.own hn' hk hcs
 rw [hb] at hb'
 simp only [Option.some.injEq] at hb'
 subst hb'
 rw [addr_off] at e0
 obtain ⟨v1, A, L1, B, eL, h1, hset⟩ := h0.part hp'.own hn'
 have hv1 : v1 = ρ id path := by
  cases d1 with
  | lit v => simp [D.kids] at hk
  | hole => simp [D.kids] at hk
  | fn g cs => simp [D.kids] at hk
  | sl own sz cs' => cases own <;> simp [D.kids] at hk; simp only [RD] at h1; rw [h1.1, Rho.sub_nil]
  | pt own cs' => cases own <;> simp [D.kids] at hk; simp only [RD] at h1; rw [h1.1, Rho.sub_nil]
 have hsub : ∀ g' ∈ L1, g' ∈ L' x := fun g' hg => by rw [eL]; simp [hg]
 have hndx := h0.nodup x
 rw [eL] at hndx
 have hnd1 : L1.Nodup := (List.nodup_append.1 ((List.nodup_append.1 hndx).2.1)).1
 have hg1 : g0 ∈ L1 := by
  obtain ⟨g2, o2, _, _, _, hb2, e2, _⟩ := h1.store (j := 0) hk (List.getElem?_eq_getElem (by
   cases cs with
   | nil => exact absurd rfl hcs
   | cons => simp)) hnd1 (fun g' hg' => (h0.bound x g' (hsub g' hg')).2)
  rw [hv1, hb] at hb2
  simp only [Option.some.injEq, Addr.mk.injEq, and_true] at hb2
  obtain ⟨rfl, rfl⟩ := hb2
  rw [e2]; simp
 obtain ⟨ρ', L2, c1, c2, c3, c4, c5, c6, c7, c8⟩ := RD.stores (g := g0) (o := o0) hv hm.nd (fun g' hg' => (hm.bound g' hg').2) (j := off) h1 hk hlen hnd1 (fun g' hg' => (h0.bound x g' (hsub g' hg')).2) (fun g' hg' => hm.disj x g' (hsub g' hg')) (by rw [hv1]; exact hb) hg1
 have hAB : ∀ g', g' ∈ A ∨ g' ∈ B → g' ≠ g0 := by
  rintro g' hg' rfl
  simp only [List.nodup_append, List.mem_append] at hndx
  rcases hg' with hg' | hg'
  ·exact hndx.2.2 g' hg' g' (.inl hg1) rfl
  ·exact hndx.2.1.2.2 g' hg1 g' hg' rfl
 have hfin := hset (w.setCells g0 (o0 + off) us) _ _ _ (fun g' hg' => c6 g' (by rintro rfl; exact (h0.bound x g' hg0).2 hg')) (fun g' hg' => c6 g' (hAB g' hg')) c2
 have hml : us.length = ds.length := hv.length
 refine wp_of_skip (w' := w.setCells g0 (o0 + off) us) ?_ ?_
 ·have hrun := run_store_cells (P := P) (T := T) (m := m) w g0 (o0 + off) (a.eval xv) (by rw [hus, hml, hm0]) (by rw [← hm0]; exact c1) (by rw [hus]; exact ones_of hv)
  rw [hus] at hrun
  simp only [execOp, e0, Sem.run_bind, hrun, Result.andThen_ok, Sem.run_pure]
 ·refine hK _ _ ⟨fun i => if i = nid then (ρ id).set path ρ' else ρ i, fun s => if s = x then A ++ (L2 ++ B) else L' s, ?_⟩
  refine hm.step (fun s => s = x) [g0] _ _ _ (w.setCells g0 (o0 + off) us) _ _ rfl rfl (fun _ _ => rfl) c8 (fun g' hg' => .inl ⟨x, rfl, by simp only [List.mem_singleton] at hg'; rw [hg']; exact hg0⟩) (fun i hi => by rw [if_neg (by rintro rfl; exact hX hi)]) (fun s hs' => ⟨put_other _ _ _ _ hs', rfl, by simp [hs']⟩) (fun s hs' => ?_) (fun s u hs' hu hne => absurd (hs'.trans hu.symm) hne) (fun _ h => .inl h) (fun s hs' i hi => ?_)
  ·subst hs'
   simp only [puts, put_same, if_true, SR]
   refine ⟨hfin, ?_, fun g' hg' => ?_⟩
   ·have hd2 : ∀ g' ∈ L2, g' ∉ A ∧ g' ∉ B := fun g' hg' => by
     rcases c4 g' hg' with h | h
     ·simp only [List.nodup_append, List.mem_append] at hndx
      exact ⟨fun ha => hndx.2.2 g' ha g' (.inl h) rfl, fun hb => hndx.2.1.2.2 g' h g' hb rfl⟩
     ·have := fun hx => hm.disj s g' hx h
      rw [eL] at this
      simp only [List.mem_append] at this
      exact ⟨fun ha => this (.inl ha), fun hb => this (.inr (.inr hb))⟩
    simp only [List.nodup_append, List.mem_append] at hndx ⊢
    grind
   ·simp only [List.mem_append] at hg'
    have hlt : ∀ g', (g' ∈ L' s ∨ g' ∈ M1) → g' < (w.setCells g0 (o0 + off) us).heap.size ∧ ((∃ u, u = s ∧ g' ∈ L' u) ∨ g' ∈ M1 ∨ w.heap.size ≤ g') := by
     intro g' h
     rw [c7]
     rcases h with h | h
     ·exact ⟨(h0.bound s g' h).1, .inl ⟨s, rfl, h⟩⟩
     ·exact ⟨(hm.bound g' h).1, .inr (.inl h)⟩
    refine hlt g' ?_
    rcases hg' with h | h | h
    ·left; rw [eL]; simp [h]
    ·rcases c4 g' h with h | h
     ·exact .inl (hsub g' h)
     ·exact .inr h
    ·left; rw [eL]; simp [h]
  ·subst hs'
   simp only [puts, put_same, AV.ids, List.mem_singleton] at hi
   exact .inr hi
theorem step_store_give_ptr {t x id off : Nat} {path rd : List Nat} {xv : Operand} {T : TypeId} {dd d1 : D} {cs ds : List D} {up : List (Nat × AV)} {ty pos aft g} (hg : GiveV st xv rd ds up) (h : puts st up t = .ptr x id path off) (hx : puts st up x = .own id dd) (hn' : dd.nav path = some d1) (hk : d1.kids = some cs)
  {m : Nat} [hT : SizeTy P T m] (hm0 : ds.length = m) (hlen : off + ds.length ≤ cs.length) (hz : ds ≠ []) :
  Step P n ⟨none, .store T (.tmp t) xv, ty, pos, aft, g⟩ nid st (rd ++ [t, x]) (up ++ [(x, .own nid (dd.put path (d1.withKids (D.over cs off ds))))]) := step_stores hg (.ptr h hx) hn' hk hm0 hlen hz
theorem step_store_give_root {t id : Nat} {rd : List Nat} {xv : Operand} {T : TypeId} {cs ds : List D} {up : List (Nat × AV)} {ty pos aft g} (hg : GiveV st xv rd ds up) (h : puts st up t = .own id (.pt true cs))
  {m : Nat} [hT : SizeTy P T m] (hm0 : ds.length = m) (hlen : ds.length ≤ cs.length) (hz : ds ≠ []) :
  Step P n ⟨none, .store T (.tmp t) xv, ty, pos, aft, g⟩ nid st (rd ++ [t]) (up ++ [(t, .own nid (.pt true (D.over cs 0 ds)))]) := step_stores hg (.root h) rfl rfl hm0 (by omega) hz
class MakeTy (P : Program) (T : TypeId) (d0 : outParam D) : Prop where
 out : ∃ e i z, P.underlying T = some (.slice e) ∧ P.info? e = some i ∧ i.size = 1 ∧ i.bytes ≤ 128 ∧ i.zero = some z ∧ z.cells = #[z] ∧ ZeroD z d0
theorem ZeroD.rds_rep {F : Nat → Prop} {w : World} {z : Value} {d0 : D} (h : ZeroD z d0) : ∀ (m k : Nat), RDs F w (List.replicate m d0) k (fun _ => z) (List.replicate m z) []
 | 0, k => by simp [RDs]
 | m + 1, k => by
  simp only [List.replicate_succ, RDs]
  exact ⟨z, List.replicate m z, [], [], rfl, rfl, RD.rho d0 _ _ z [] h.rd (fun π => rfl), h.rds_rep m (k + 1)⟩
theorem step_make {d m : Nat} {T : TypeId} {d0 : D} {x y : Operand} {k k' : IntKind} {i i' : Int} {ty pos aft g} [hT : MakeTy P T d0] (hx : Lit st x (.int k i)) (hy : Lit st y (.int k' i')) (hi : i = (m : Int)) (hi' : i' = (m : Int)) (hm : m ≤ 1099511627776) (hd : n d = true) :
  Step P n ⟨some d, .makeSlice T x y, ty, pos, aft, g⟩ nid st (rdOf x ++ rdOf y) [(d, .own nid (.sl true 1 (List.replicate m d0)))] := by
 intro X st' hs hX f a w hn hrep K Q hK
 obtain ⟨ρ, L, hr⟩ := hrep
 subst hn hi hi'
 obtain ⟨e, i, z, t1, t2, t3, t4, t5, t6, t7⟩ := hT.out
 have ex := Lit.eval hr (hx.agree fun s h => hs s (by simp [h]))
 have ey := Lit.eval hr (hy.agree fun s h => hs s (by simp [h]))
 have hrun := run_make_row (P := P) T e i z t1 t2 t5 t3 t6 k k' m (by have : i.bytes * m ≤ 128 * m := Nat.mul_le_mul_right _ t4; omega) (by omega) w
 have h2 := ZeroD.rds_rep (F := f.F) (w := w.alloc (.cells (madeCells #[z] m) e)) t7 m 0
 refine wV_ (u := .slice (some ⟨w.heap.size, 0, none⟩) m m) (w' := w.alloc (.cells (madeCells #[z] m) e)) ?_
  (hr.done_new hK hd hX _ _ (Keep.alloc w _) (fun π => match π with | [] => .slice (some ⟨w.heap.size, 0, none⟩) m m | _ :: _ => z) [w.heap.size] ?_ (by simp) (by simp))
 ·simp only [execOp, ex, ey, Sem.run_bind, hrun, Result.andThen_ok, Sem.run_pure]
 ·simp only [RD]
  refine ⟨trivial, List.replicate m z, [w.heap.size], [], by simp, .mk0 ⟨w.heap.size, m, m, madeCells #[z] m, e, rfl, alloc_new w _, by simp, Nat.le_refl _, by unfold maxLen; omega, by simp [size_madeCells], ?_, rfl⟩, ?_⟩
  ·rw [toList_madeCells_one]; simp
  ·exact RDs.rho _ 0 _ _ _ _ h2 (fun j _ => rfl)
end
end Go.Pv
