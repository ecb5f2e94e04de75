/- Rows of truth values; nil; calls whose results share memory that nobody writes. No condition. -/
import Derived.Test.YtinenidbgmddhaaGreatUPvU
set_option linter.unusedVariables false
set_option linter.unusedSimpArgs false
namespace Go.Pv
open Go.RowKit
def CallNG (own : Bool) (P : Program) (K : FuncId) (d : D) (args : List Arg) (rs : List V) (d' : D) : Prop :=
  ∀ (w : World) (v : Value) (vs : List Value) (M0 M1 : List Nat) (F : Nat → Prop) (r : Rho), (∀ g, F g → g < w.heap.size ∧ g ∉ M0 ++ M1) → RD F w d r v M0 → ArgsR F w args vs M1 → (M0 ++ M1).Nodup → (∀ g ∈ M0 ++ M1, g < w.heap.size) →
    Calls P K (v :: vs).toArray w fun e w' => ∃ us Lr Lo, e = .returned (retVal us) ∧ Keep w (M0 ++ M1) w' ∧ VRs (Res own F) w' rs us Lr ∧ RD (Res own F) w' d' r v Lo ∧ (Lr ++ Lo).Nodup ∧
      ∀ g ∈ Lr ++ Lo, g < w'.heap.size ∧ (g ∈ M0 ++ M1 ∨ w.heap.size ≤ g)
section
variable {P : Program} {n : NN} {nid : Nat} {st : Nat → AV} {f : Fr} {X : Nat → Prop} {a : Act} {w : World} {ρ : Nat → Rho} {L : Nat → List Nat} {M : List Nat}
theorem RepM.lendN (h : RepM f X st a w ρ L M) {x : Operand} {xr id : Nat} {path rd : List Nat} {dd d : D} (hi : IoAt st x xr id path dd d rd) :
    ∃ L' M1, RepM f X (put st xr (.own id (dd.put path .hole))) a w ρ L' (M ++ M1) ∧ RD f.F w d ((ρ id).sub path) (a.eval x) M1 := by
  obtain ⟨hx, hn, _⟩ := hi.own
  have hids := h.rep.ids xr
  rw [hx] at hids
  obtain ⟨cs, hk⟩ := hi.kids
  obtain ⟨v1, A, L1, B, eL, h3, hset⟩ := h.rep.part hx hn
  have hv1 : v1 = (ρ id).sub path [] := named hk h3
  have hev : a.eval x = v1 := by rw [hv1, Rho.sub_nil]; exact hi.eval h.rep
  have hfin := hset w .hole ((ρ id).sub path) [] (fun _ _ => rfl) (fun _ _ => rfl) (by simp only [RD]; exact ⟨hv1, h3.one, trivial⟩)
  rw [Rho.set_sub] at hfin
  have hnd := h.rep.nodup xr
  rw [eL] at hnd
  simp only [List.nodup_append, List.mem_append] at hnd
  rw [hev]
  refine ⟨_, L1, h.detach xr (.own id (dd.put path .hole)) (A ++ ([] ++ B)) L1 (by simp only [SR]; exact hfin) (by simpa [AV.ids] using hids) (fun g hg => ?_) ?_ hnd.2.1.1 (fun g hg hg' => ?_), h3⟩
  · rw [eL]; simp only [List.nil_append, List.mem_append] at hg ⊢; grind
  · simp only [List.nil_append, List.nodup_append]; grind
  · simp only [List.nil_append, List.mem_append] at hg; grind
def AV.root : AV → Nat → Prop
  | .own i _, k => i = k
  | _, _ => False
def DoneN (P : Program) (fn : Func) (d : D) (args : List Arg) (rs : List V) (d' : D) (e : Exit) (s : Nat → AV) (_ : Nat) : Prop :=
  (e = .normal ∨ e = .ret) ∧ ∃ s', Ress P s fn.results.toList rs s' ∧ s' 0 = .own 0 d'
theorem DoneN.ret {fn : Func} {d : D} {args : List Arg} {rs rs' : List V} {d' d1 : D} {s s' : Nat → AV} {k : Nat} (hr : Ress P s fn.results.toList rs' s') (ho : s' 0 = .own 0 d1) (h : rs' = rs) (h' : d1 = d') : DoneN P fn d args rs d' .ret s k := by
  subst h h'; exact ⟨.inr rfl, s', hr, ho⟩
theorem DoneN.normal {fn : Func} {d : D} {args : List Arg} {rs rs' : List V} {d' d1 : D} {s s' : Nat → AV} {k : Nat} (hr : Ress P s fn.results.toList rs' s') (ho : s' 0 = .own 0 d1) (h : rs' = rs) (h' : d1 = d') : DoneN P fn d args rs d' .normal s k := by
  subst h h'; exact ⟨.inl rfl, s', hr, ho⟩
end
end Go.Pv
namespace Go.Pv
open Go.RowKit
abbrev bools (l : List Bool) : List D := l.map fun b => D.lit (.bool b)
theorem bools_get {l : List Bool} {i : Nat} (h : i < l.length) : (l.map fun b => D.lit (.bool b))[i]? = some (.lit (.bool (l.getD i false))) := map_get false h
theorem erases_bools (l : List Bool) : D.erases (bools l) = bools l := by rw [D.erases_eq]; simp [D.erase]
theorem solids_bools (l : List Bool) : D.solids (bools l) = true := by
  unfold bools
  induction l with
  | nil => rfl
  | cons a l ih => simp only [List.map_cons, D.solids, D.solid, ih, Bool.and_self]
section
variable {P : Program} {n : NN} {nid : Nat} {st : Nat → AV} {f : Fr} {X : Nat → Prop} {a : Act} {w : World} {ρ : Nat → Rho} {L : Nat → List Nat} {M : List Nat}
theorem step_store_bools {t x id off : Nat} {path : List Nat} {xv : Operand} {v : Bool} {T : TypeId} {dd d1 : D} {l : List Bool} {ty pos aft g} [OneTy P T] (h : st t = .ptr x id path off) (hx : st x = .own id dd) (hn' : dd.nav path = some d1) (hk : d1.kids = some (bools l))
    (hv : Lit st xv (.bool v)) (hlt : off < l.length) :
    Step P n ⟨none, .store T (.tmp t) xv, ty, pos, aft, g⟩ nid st (t :: x :: rdOf xv) [(x, .own id (dd.put path (d1.withKids (bools (l.set off v)))))] := by
  have := step_store_lit (P := P) (n := n) (nid := nid) (T := T) (ty := ty) (pos := pos) (aft := aft) (g := g) h hx hn' hk (bools_get hlt) hv rfl
  rwa [show (bools l).set off (.lit (.bool v)) = bools (l.set off v) by simp [bools, List.map_set]] at this
theorem replicate_bools (m : Nat) : List.replicate m (D.lit (.bool false)) = bools (List.replicate m false) := by simp [bools]
theorem step_make_bools {d : Nat} {T : TypeId} {x y : Operand} {k k' : IntKind} {i i' : Int} {ty pos aft g} [hT : MakeTy P T (.lit (.bool false))] (hx : Lit st x (.int k i)) (hy : Lit st y (.int k' i')) (he : i' = i) (h0 : 0 ≤ i) (hm : i ≤ 1099511627776) (hd : n d = true) :
    Step P n ⟨some d, .makeSlice T x y, ty, pos, aft, g⟩ nid st (rdOf x ++ rdOf y) [(d, .own nid (.sl true 1 (bools (List.replicate i.toNat false))))] := by
  rw [← replicate_bools]
  exact step_make hx hy (Int.toNat_of_nonneg h0).symm (by rw [he]; exact (Int.toNat_of_nonneg h0).symm) (by omega) hd
theorem step_eql_nil {d : Nat} {x : Operand} {T T' : TypeId} {ty pos aft g} {rd : List Nat} {sz sz' : Nat} {cs : List D} [hT : SliceTy P T sz'] (hv : View st x rd sz cs) (hc : cs ≠ []) (hd : n d = true) :
    Step P n ⟨some d, .binOp .eql T x (.const (.slice none 0 0)) T', ty, pos, aft, g⟩ nid st rd [(d, .c (.lit (.bool false)))] := by
  intro X st' hs hX f a w hn hrep K Q hK
  obtain ⟨ρ, L, hr⟩ := hrep
  subst hn
  obtain ⟨us, r, ⟨a0, n0, c0, e0, h1, h2, h3, h4⟩, h5⟩ := (hv.agree hs).read hr
  obtain ⟨e, i, z, t1, _⟩ := hT.out
  have hu : us ≠ [] := by
    rintro rfl
    have := h5.length
    rw [D.erases_eq, List.length_map] at this
    exact hc (List.eq_nil_of_length_eq_zero this.symm)
  obtain ⟨b, rfl, _⟩ := h4 hu
  refine wp_of_value (u := .bool false) (w' := w) ?_ (hr.done_lit (nid := nid) (d := d) (K := K) hK hd rfl)
  simp only [execOp, Sem.run_bind]
  have e1 : a.eval (.const (.slice none 0 0)) = .slice none 0 0 := rfl
  rw [e0, e1]
  have hg : (eqGuard .eql T x (.const (.slice none 0 0)) (.slice (some b) n0 c0) (.slice none 0 0)).run P w = .ok () w := by
    unfold eqGuard; simp
  simp only [hg, Result.andThen_ok, binOp, Sem.run_bind]
  rw [run_equal_slice_nil (P := P) w T e (some b) n0 c0 t1]
  simp
theorem step_neq_nil {d : Nat} {x : Operand} {T T' : TypeId} {ty pos aft g} {rd : List Nat} {sz sz' : Nat} {cs : List D} [hT : SliceTy P T sz'] (hv : View st x rd sz cs) (hc : cs ≠ []) (hd : n d = true) :
    Step P n ⟨some d, .binOp .neq T x (.const (.slice none 0 0)) T', ty, pos, aft, g⟩ nid st rd [(d, .c (.lit (.bool true)))] := by
  intro X st' hs hX f a w hn hrep K Q hK
  obtain ⟨ρ, L, hr⟩ := hrep
  subst hn
  obtain ⟨us, r, ⟨a0, n0, c0, e0, h1, h2, h3, h4⟩, h5⟩ := (hv.agree hs).read hr
  obtain ⟨e, i, z, t1, _⟩ := hT.out
  have hu : us ≠ [] := by
    rintro rfl
    have := h5.length
    rw [D.erases_eq, List.length_map] at this
    exact hc (List.eq_nil_of_length_eq_zero this.symm)
  obtain ⟨b, rfl, _⟩ := h4 hu
  refine wp_of_value (u := .bool true) (w' := w) ?_ (hr.done_lit (nid := nid) (d := d) (K := K) hK hd rfl)
  simp only [execOp, Sem.run_bind]
  have e1 : a.eval (.const (.slice none 0 0)) = .slice none 0 0 := rfl
  rw [e0, e1]
  have hg : (eqGuard .neq T x (.const (.slice none 0 0)) (.slice (some b) n0 c0) (.slice none 0 0)).run P w = .ok () w := by
    unfold eqGuard; simp
  simp only [hg, Result.andThen_ok, binOp, Sem.run_bind]
  rw [run_equal_slice_nil (P := P) w T e (some b) n0 c0 t1]
  simp
theorem step_eql_nillit {d : Nat} {x : Operand} {T T' : TypeId} {ty pos aft g} {sz' : Nat} [hT : SliceTy P T sz'] (hv : Lit st x (.slice none 0 0)) (hd : n d = true) :
    Step P n ⟨some d, .binOp .eql T x (.const (.slice none 0 0)) T', ty, pos, aft, g⟩ nid st (rdOf x) [(d, .c (.lit (.bool true)))] := by
  intro X st' hs hX f a w hn hrep K Q hK
  obtain ⟨ρ, L, hr⟩ := hrep
  subst hn
  obtain ⟨e, i, z, t1, _⟩ := hT.out
  have e0 := Lit.eval hr (hv.agree hs)
  refine wp_of_value (u := .bool true) (w' := w) ?_ (hr.done_lit (nid := nid) (d := d) (K := K) hK hd rfl)
  simp only [execOp, Sem.run_bind]
  have e1 : a.eval (.const (.slice none 0 0)) = .slice none 0 0 := rfl
  rw [e0, e1]
  have hg : (eqGuard .eql T x (.const (.slice none 0 0)) (.slice none 0 0) (.slice none 0 0)).run P w = .ok () w := by
    unfold eqGuard; simp
  simp only [hg, Result.andThen_ok, binOp, Sem.run_bind]
  rw [run_equal_slice_nil (P := P) w T e none 0 0 t1]
  simp
theorem step_neq_nillit {d : Nat} {x : Operand} {T T' : TypeId} {ty pos aft g} {sz' : Nat} [hT : SliceTy P T sz'] (hv : Lit st x (.slice none 0 0)) (hd : n d = true) :
    Step P n ⟨some d, .binOp .neq T x (.const (.slice none 0 0)) T', ty, pos, aft, g⟩ nid st (rdOf x) [(d, .c (.lit (.bool false)))] := by
  intro X st' hs hX f a w hn hrep K Q hK
  obtain ⟨ρ, L, hr⟩ := hrep
  subst hn
  obtain ⟨e, i, z, t1, _⟩ := hT.out
  have e0 := Lit.eval hr (hv.agree hs)
  refine wp_of_value (u := .bool false) (w' := w) ?_ (hr.done_lit (nid := nid) (d := d) (K := K) hK hd rfl)
  simp only [execOp, Sem.run_bind]
  have e1 : a.eval (.const (.slice none 0 0)) = .slice none 0 0 := rfl
  rw [e0, e1]
  have hg : (eqGuard .neq T x (.const (.slice none 0 0)) (.slice none 0 0) (.slice none 0 0)).run P w = .ok () w := by
    unfold eqGuard; simp
  simp only [hg, Result.andThen_ok, binOp, Sem.run_bind]
  rw [run_equal_slice_nil (P := P) w T e none 0 0 t1]
  simp
inductive AllC : List AV → List D → Prop
  | nil : AllC [] []
  | cons {d l ds} : AllC l ds → AllC (.c d :: l) (d :: ds)
inductive ShowsF (st : Nat → AV) : Operand → List Nat → V → Prop
  | lit {x v} : Lit st x v → v.oneCell' = true → ShowsF st x (rdOf x) (.one (.lit v))
  | c {t d} : st t = .c d → ShowsF st (.tmp t) [t] (.one d)
  | agg {t l ds} : st t = .agg l → AllC l ds → ShowsF st (.tmp t) [t] (.agg ds)
inductive ReadsF (st : Nat → AV) : List Operand → List Arg → List Nat → Prop
  | nil : ReadsF st [] [] []
  | sh {x xs v args rd rds} : ShowsF st x rd v → ReadsF st xs args rds → ReadsF st (x :: xs) (.sh v :: args) (rd ++ rds)
  | mv {x xs v args rds} : ReadsF st xs args rds → ReadsF st (x :: xs) (.mv v :: args) rds
theorem ShowsF.agree {st st' : Nat → AV} {x : Operand} {rd : List Nat} {v : V} (h : ShowsF st x rd v) (hs : ∀ s ∈ rd, st' s = st s) : ShowsF st' x rd v := by
  cases h with
  | lit h h1 => exact .lit (h.agree hs) h1
  | c h => exact .c ((hs _ (by simp)).trans h)
  | agg h h1 => exact .agg ((hs _ (by simp)).trans h) h1
theorem ReadsF.agree {st st' : Nat → AV} : ∀ {xs : List Operand} {args : List Arg} {rd : List Nat}, ReadsF st xs args rd → (∀ s ∈ rd, st' s = st s) → ReadsF st' xs args rd
  | _, _, _, .nil, _ => .nil
  | _, _, _, .sh h1 h2, hs => .sh (h1.agree fun s hs' => hs s (by simp [hs'])) (ReadsF.agree h2 fun s hs' => hs s (by simp [hs']))
  | _, _, _, .mv h, hs => .mv (ReadsF.agree h hs)
theorem AllC.rds {F : Nat → Prop} {w : World} {ρ : Nat → Rho} : ∀ {l : List AV} {ds : List D} {vs : List Value} {L0 : List Nat} (k : Nat), AllC l ds → SRs F w ρ l vs L0 → ∃ r, RDs F w ds k r vs []
  | _, _, _, _, k, .nil, hx => by simp only [SRs] at hx; exact ⟨fun _ => undef, by simp only [RDs]; exact ⟨hx.1, trivial⟩⟩
  | _, _, _, _, k, .cons (d := d) (ds := ds) h, hx => by
    simp only [SRs] at hx
    obtain ⟨v, vs', L1, L2, rfl, rfl, h3, h4⟩ := hx
    simp only [SR] at h3
    obtain ⟨_, r1, e1⟩ := h3
    obtain ⟨r2, e2⟩ := AllC.rds (k + 1) h h4
    refine ⟨fun π => match π with | [] => undef | j :: q => if j = k then r1 q else r2 (j :: q), ?_⟩
    simp only [RDs]
    refine ⟨v, vs', [], [], rfl, rfl, RD.rho d r1 _ v [] e1 (fun π => by simp [Rho.at]), RDs.rho ds (k + 1) r2 _ vs' [] e2 (fun j hj => ?_)⟩
    funext π
    simp [Rho.at, show j ≠ k from by omega]
theorem ShowsF.rd (h : RepM f X st a w ρ L M) {x : Operand} {rd : List Nat} {v : V} (hv : ShowsF st x rd v) : VR f.F w v (a.eval x) [] := by
  cases hv with
  | @lit x v hl h1 =>
    rw [Lit.eval h.rep hl]
    exact ⟨fun _ => undef, by simp only [RD]; exact ⟨trivial, h1, trivial⟩⟩
  | @c t d ht =>
    have := h.rep.slots t
    rw [ht] at this
    simp only [SR] at this
    exact this.2
  | @agg t l ds ht hl =>
    have := h.rep.slots t
    rw [ht] at this
    simp only [SR] at this
    obtain ⟨vs, e, hs⟩ := this
    obtain ⟨r, hr⟩ := hl.rds 0 hs
    exact ⟨r, vs, e, hr⟩
theorem args_ofF (h : RepM f X st a w ρ L M) : ∀ {xs : List Operand} {args : List Arg} {M1 : List Nat}, MovedR f.F w a.eval xs args M1 → ∀ {rd : List Nat}, ReadsF st xs args rd → ArgsR f.F w args (xs.map a.eval) M1
  | _, _, _, .nil, _, .nil => by simp [ArgsR]
  | _, _, _, .sh h1, _, .sh h2 h3 => by
    simp only [ArgsR, List.map_cons]
    exact ⟨_, _, [], _, rfl, rfl, ⟨rfl, h2.rd h⟩, args_ofF h h1 h3⟩
  | _, _, _, .mv h1 h2, _, .mv h3 => by
    simp only [ArgsR, List.map_cons]
    exact ⟨_, _, _, _, rfl, rfl, h1, args_ofF h h2 h3⟩
theorem step_callS {d : Nat} {K : FuncId} {xs : Array Operand} {ts : Array TypeId} {args : List Arg} {rs : List V} {rd rd2 : List Nat} {up : List (Nat × AV)} {ty pos aft g} [FnOk P K] (hc : CallS P K args rs []) (hm : Moves st xs.toList args rd up) (hr : ReadsF (puts st up) xs.toList args rd2) (hd : n d = true) :
    Step P n ⟨some d, .call ⟨.value (.func K), xs, ts⟩, ty, pos, aft, g⟩ nid st (rd ++ rd2) (up ++ [(d, resAV nid rs)]) := by
  intro X st' hs hX f a w hn hrep Kk Q hK
  obtain ⟨ρ, L, h⟩ := hrep
  subst hn
  have hm' := hm.agree (st' := st') fun s hs' => hs s (List.mem_append_left _ hs')
  obtain ⟨L', M1, h1, h2⟩ := h.toM.moves hm'
  rw [puts_append] at hK
  rw [List.nil_append] at h1
  have h3 := args_ofF h1 h2 (hr.agree (st' := puts st' up) fun s hs' => puts_agree _ _ (hs s (List.mem_append_right _ hs')))
  refine wp_of_enter (run_call a.eval rfl w) ?_
  have e : xs.map a.eval = (xs.toList.map a.eval).toArray := by apply Array.ext'; rw [Array.toList_map]
  rw [e]
  refine (hc w _ M1 f.F (fun g hg => ⟨h1.rep.F_lt hg, fun hm => (h1.bound g hm).2 hg⟩) h3 h1.nd (fun g hg => (h1.bound g hg).1)).mono ?_
  rintro e w' ⟨us, Lr, Lo, rfl, hk, hv, ho, hnd, hL⟩
  have hLo : Lo = [] := outs_nil h2 _ _ ho
  subst hLo
  rw [List.append_nil] at hnd hL
  exact ⟨_, rfl, h1.put_res hK hd hX us w' hk Lr (hv.same (fun g (hg : Res false f.F g) => hg.2) (fun _ _ => rfl) (fun _ _ => rfl)) hnd hL⟩
end
end Go.Pv
