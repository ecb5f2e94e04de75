/- Rows of truth values; nil; calls whose results share memory that nobody writes. No condition. -/
import Derived.Test.YtmgmpnhlehonmaaGreatLPwB
set_option linter.unusedVariables false
set_option linter.unusedSimpArgs false
namespace Go.Pv
open Go.RowKit
abbrev bools (l : List Bool) : List D := l.map fun b => D.lit (.bool b)
theorem bools_get {l : List Bool} {i : Nat} (h : i < l.length) : (l.map fun b => D.lit (.bool b))[i]? = some (.lit (.bool (l.getD i false))) := map_get false h
theorem eB_ (l : List Bool) : D.erases (bools l) = bools l := by rw [D.erases_eq]; simp [D.erase]
theorem solids_bools (l : List Bool) : D.solids (bools l) = true := by
 unfold bools
 induction l with
 | nil => rfl
 | cons a l ih => simp only [List.map_cons, D.solids, D.solid, ih, Bool.and_self]
section
variable {P : Program} {n : NN} {nid : Nat} {st : Nat → AV} {f : Fr} {X : Nat → Prop} {a : Act} {w : World} {ρ : Nat → Rho} {L : Nat → List Nat} {M : List Nat}
theorem step_store_bools {t x id off : Nat} {path : List Nat} {xv : Operand} {v : Bool} {T : TypeId} {dd d1 : D} {l : List Bool} {ty pos aft g} [OneTy P T] (h : st t = .ptr x id path off) (hx : st x = .own id dd) (hn' : dd.nav path = some d1) (hk : d1.kids = some (bools l))
  (hv : Lit st xv (.bool v)) (hlt : off < l.length) :
  Step P n ⟨none, .store T (.tmp t) xv, ty, pos, aft, g⟩ nid st (t :: x :: rdOf xv) [(x, .own id (dd.put path (d1.withKids (bools (l.set off v)))))] := by
 have := step_store_lit (P := P) (n := n) (nid := nid) (T := T) (ty := ty) (pos := pos) (aft := aft) (g := g) h hx hn' hk (bools_get hlt) hv rfl
 rwa [show (bools l).set off (.lit (.bool v)) = bools (l.set off v) by simp [bools, List.map_set]] at this
theorem replicate_bools (m : Nat) : List.replicate m (D.lit (.bool false)) = bools (List.replicate m false) := by simp [bools]
theorem step_make_bools {d : Nat} {T : TypeId} {x y : Operand} {k k' : IntKind} {i i' : Int} {ty pos aft g} [hT : MakeTy P T (.lit (.bool false))] (hx : Lit st x (.int k i)) (hy : Lit st y (.int k' i')) (he : i' = i) (h0 : 0 ≤ i) (hm : i ≤ 1099511627776) (hd : n d = true) :
  Step P n ⟨some d, .makeSlice T x y, ty, pos, aft, g⟩ nid st (rdOf x ++ rdOf y) [(d, .own nid (.sl true 1 (bools (List.replicate i.toNat false))))] := by
 rw [← replicate_bools]
 exact step_make hx hy (Int.toNat_of_nonneg h0).symm (by rw [he]; exact (Int.toNat_of_nonneg h0).symm) (by omega) hd
theorem step_eql_nil {d : Nat} {x : Operand} {T T' : TypeId} {ty pos aft g} {rd : List Nat} {sz sz' : Nat} {cs : List D} [hT : SliceTy P T sz'] (hv : View st x rd sz cs) (hc : cs ≠ []) (hd : n d = true) :
  Step P n ⟨some d, .binOp .eql T x (.const (.slice none 0 0)) T', ty, pos, aft, g⟩ nid st rd [(d, .c (.lit (.bool false)))] := by
 intro X st' hs hX f a w hn hrep K Q hK
 obtain ⟨ρ, L, hr⟩ := hrep
 subst hn
 obtain ⟨us, r, ⟨a0, n0, c0, e0, h1, h2, h3, h4⟩, h5⟩ := (hv.agree hs).read hr
 obtain ⟨e, i, z, t1, _⟩ := hT.out
 have hu : us ≠ [] := by
  rintro rfl
  have := h5.length
  rw [D.erases_eq, List.length_map] at this
  exact hc (List.eq_nil_of_length_eq_zero this.symm)
 obtain ⟨b, rfl, _⟩ := h4 hu
 refine wV_ (u := .bool false) (w' := w) ?_ (hr.done_lit (nid := nid) (d := d) (K := K) hK hd rfl)
 simp only [execOp, Sem.run_bind]
 have e1 : a.eval (.const (.slice none 0 0)) = .slice none 0 0 := rfl
 rw [e0, e1]
 have hg : (eqGuard .eql T x (.const (.slice none 0 0)) (.slice (some b) n0 c0) (.slice none 0 0)).run P w = .ok () w := by
  unfold eqGuard; simp
 simp only [hg, Result.andThen_ok, binOp, Sem.run_bind]
 rw [run_equal_slice_nil (P := P) w T e (some b) n0 c0 t1]
 simp
theorem step_neq_nil {d : Nat} {x : Operand} {T T' : TypeId} {ty pos aft g} {rd : List Nat} {sz sz' : Nat} {cs : List D} [hT : SliceTy P T sz'] (hv : View st x rd sz cs) (hc : cs ≠ []) (hd : n d = true) :
  Step P n ⟨some d, .binOp .neq T x (.const (.slice none 0 0)) T', ty, pos, aft, g⟩ nid st rd [(d, .c (.lit (.bool true)))] := by
 intro X st' hs hX f a w hn hrep K Q hK
 obtain ⟨ρ, L, hr⟩ := hrep
 subst hn
 obtain ⟨us, r, ⟨a0, n0, c0, e0, h1, h2, h3, h4⟩, h5⟩ := (hv.agree hs).read hr
 obtain ⟨e, i, z, t1, _⟩ := hT.out
 have hu : us ≠ [] := by
  rintro rfl
  have := h5.length
  rw [D.erases_eq, List.length_map] at this
  exact hc (List.eq_nil_of_length_eq_zero this.symm)
 obtain ⟨b, rfl, _⟩ := h4 hu
 refine wV_ (u := .bool true) (w' := w) ?_ (hr.done_lit (nid := nid) (d := d) (K := K) hK hd rfl)
 simp only [execOp, Sem.run_bind]
 have e1 : a.eval (.const (.slice none 0 0)) = .slice none 0 0 := rfl
 rw [e0, e1]
 have hg : (eqGuard .neq T x (.const (.slice none 0 0)) (.slice (some b) n0 c0) (.slice none 0 0)).run P w = .ok () w := by
  unfold eqGuard; simp
 simp only [hg, Result.andThen_ok, binOp, Sem.run_bind]
 rw [run_equal_slice_nil (P := P) w T e (some b) n0 c0 t1]
 simp
theorem step_eql_nillit {d : Nat} {x : Operand} {T T' : TypeId} {ty pos aft g} {sz' : Nat} [hT : SliceTy P T sz'] (hv : Lit st x (.slice none 0 0)) (hd : n d = true) :
  Step P n ⟨some d, .binOp .eql T x (.const (.slice none 0 0)) T', ty, pos, aft, g⟩ nid st (rdOf x) [(d, .c (.lit (.bool true)))] := by
 intro X st' hs hX f a w hn hrep K Q hK
 obtain ⟨ρ, L, hr⟩ := hrep
 subst hn
 obtain ⟨e, i, z, t1, _⟩ := hT.out
 have e0 := Lit.eval hr (hv.agree hs)
 refine wV_ (u := .bool true) (w' := w) ?_ (hr.done_lit (nid := nid) (d := d) (K := K) hK hd rfl)
 simp only [execOp, Sem.run_bind]
 have e1 : a.eval (.const (.slice none 0 0)) = .slice none 0 0 := rfl
 rw [e0, e1]
 have hg : (eqGuard .eql T x (.const (.slice none 0 0)) (.slice none 0 0) (.slice none 0 0)).run P w = .ok () w := by
  unfold eqGuard; simp
 simp only [hg, Result.andThen_ok, binOp, Sem.run_bind]
 rw [run_equal_slice_nil (P := P) w T e none 0 0 t1]
 simp
theorem step_neq_nillit {d : Nat} {x : Operand} {T T' : TypeId} {ty pos aft g} {sz' : Nat} [hT : SliceTy P T sz'] (hv : Lit st x (.slice none 0 0)) (hd : n d = true) :
  Step P n ⟨some d, .binOp .neq T x (.const (.slice none 0 0)) T', ty, pos, aft, g⟩ nid st (rdOf x) [(d, .c (.lit (.bool false)))] := by
 intro X st' hs hX f a w hn hrep K Q hK
 obtain ⟨ρ, L, hr⟩ := hrep
 subst hn
 obtain ⟨e, i, z, t1, _⟩ := hT.out
 have e0 := Lit.eval hr (hv.agree hs)
 refine wV_ (u := .bool false) (w' := w) ?_ (hr.done_lit (nid := nid) (d := d) (K := K) hK hd rfl)
 simp only [execOp, Sem.run_bind]
 have e1 : a.eval (.const (.slice none 0 0)) = .slice none 0 0 := rfl
 rw [e0, e1]
 have hg : (eqGuard .neq T x (.const (.slice none 0 0)) (.slice none 0 0) (.slice none 0 0)).run P w = .ok () w := by
  unfold eqGuard; simp
 simp only [hg, Result.andThen_ok, binOp, Sem.run_bind]
 rw [run_equal_slice_nil (P := P) w T e none 0 0 t1]
 simp
inductive AllC : List AV → List D → Prop
 | nil : AllC [] []
 | cons {d l ds} : AllC l ds → AllC (.c d :: l) (d :: ds)
inductive ShowsF (st : Nat → AV) : Operand → List Nat → V → Prop
 | lit {x v} : Lit st x v → v.oneCell' = true → ShowsF st x (rdOf x) (.one (.lit v))
 | c {t d} : st t = .c d → ShowsF st (.tmp t) [t] (.one d)
 | agg {t l ds} : st t = .agg l → AllC l ds → ShowsF st (.tmp t) [t] (.agg ds)
inductive ReadsF (st : Nat → AV) : List Operand → List Arg → List Nat → Prop
 | nil : ReadsF st [] [] []
 | sh {x xs v args rd rds} : ShowsF st x rd v → ReadsF st xs args rds → ReadsF st (x :: xs) (.sh v :: args) (rd ++ rds)
 | mv {x xs v args rds} : ReadsF st xs args rds → ReadsF st (x :: xs) (.mv v :: args) rds
theorem ShowsF.agree {st st' : Nat → AV} {x : Operand} {rd : List Nat} {v : V} (h : ShowsF st x rd v) (hs : ∀ s ∈ rd, st' s = st s) : ShowsF st' x rd v := by
 cases h with
 | lit h h1 => exact .lit (h.agree hs) h1
 | c h => exact .c ((hs _ (by simp)).trans h)
 | agg h h1 => exact .agg ((hs _ (by simp)).trans h) h1
theorem ReadsF.agree {st st' : Nat → AV} : ∀ {xs : List Operand} {args : List Arg} {rd : List Nat}, ReadsF st xs args rd → (∀ s ∈ rd, st' s = st s) → ReadsF st' xs args rd
 | _, _, _, .nil, _ => .nil
 | _, _, _, .sh h1 h2, hs => .sh (h1.agree fun s hs' => hs s (by simp [hs'])) (ReadsF.agree h2 fun s hs' => hs s (by simp [hs']))
 | _, _, _, .mv h, hs => .mv (ReadsF.agree h hs)
theorem AllC.rds {F : Nat → Prop} {w : World} {ρ : Nat → Rho} : ∀ {l : List AV} {ds : List D} {vs : List Value} {L0 : List Nat} (k : Nat), AllC l ds → SRs F w ρ l vs L0 → ∃ r, RDs F w ds k r vs []
 | _, _, _, _, k, .nil, hx => by simp only [SRs] at hx; exact ⟨fun _ => undef, by simp only [RDs]; exact ⟨hx.1, trivial⟩⟩
 | _, _, _, _, k, .cons (d := d) (ds := ds) h, hx => by
  simp only [SRs] at hx
  obtain ⟨v, vs', L1, L2, rfl, rfl, h3, h4⟩ := hx
  simp only [SR] at h3
  obtain ⟨_, r1, e1⟩ := h3
  obtain ⟨r2, e2⟩ := AllC.rds (k + 1) h h4
  refine ⟨fun π => match π with | [] => undef | j :: q => if j = k then r1 q else r2 (j :: q), ?_⟩
  simp only [RDs]
  refine ⟨v, vs', [], [], rfl, rfl, RD.rho d r1 _ v [] e1 (fun π => by simp [Rho.at]), RDs.rho ds (k + 1) r2 _ vs' [] e2 (fun j hj => ?_)⟩
  funext π
  simp [Rho.at, show j ≠ k from by omega]
theorem ShowsF.rd (h : RepM f X st a w ρ L M) {x : Operand} {rd : List Nat} {v : V} (hv : ShowsF st x rd v) : VR f.F w v (a.eval x) [] := by
 cases hv with
 | @lit x v hl h1 =>
  rw [Lit.eval h.rep hl]
  exact ⟨fun _ => undef, by simp only [RD]; exact ⟨trivial, h1, trivial⟩⟩
 | @c t d ht =>
  have := h.rep.slots t
  rw [ht] at this
  simp only [SR] at this
  exact this.2
 | @agg t l ds ht hl =>
  have := h.rep.slots t
  rw [ht] at this
  simp only [SR] at this
  obtain ⟨vs, e, hs⟩ := this
  obtain ⟨r, hr⟩ := hl.rds 0 hs
  exact ⟨r, vs, e, hr⟩
theorem args_ofF (h : RepM f X st a w ρ L M) : ∀ {xs : List Operand} {args : List Arg} {M1 : List Nat}, MovedR f.F w a.eval xs args M1 → ∀ {rd : List Nat}, ReadsF st xs args rd → ArgsR f.F w args (xs.map a.eval) M1
 | _, _, _, .nil, _, .nil => by simp [ArgsR]
 | _, _, _, .sh h1, _, .sh h2 h3 => by
  simp only [ArgsR, List.map_cons]
  exact ⟨_, _, [], _, rfl, rfl, ⟨rfl, h2.rd h⟩, args_ofF h h1 h3⟩
 | _, _, _, .mv h1 h2, _, .mv h3 => by
  simp only [ArgsR, List.map_cons]
  exact ⟨_, _, _, _, rfl, rfl, h1, args_ofF h h2 h3⟩
theorem step_callS {d : Nat} {K : FuncId} {xs : Array Operand} {ts : Array TypeId} {args : List Arg} {rs : List V} {rd rd2 : List Nat} {up : List (Nat × AV)} {ty pos aft g} [FnOk P K] (hc : CallS P K args rs []) (hm : Moves st xs.toList args rd up) (hr : ReadsF (puts st up) xs.toList args rd2) (hd : n d = true) :
  Step P n ⟨some d, .call ⟨.value (.func K), xs, ts⟩, ty, pos, aft, g⟩ nid st (rd ++ rd2) (up ++ [(d, resAV nid rs)]) := by
 intro X st' hs hX f a w hn hrep Kk Q hK
 obtain ⟨ρ, L, h⟩ := hrep
 subst hn
 have hm' := hm.agree (st' := st') fun s hs' => hs s (List.mem_append_left _ hs')
 obtain ⟨L', M1, h1, h2⟩ := h.toM.moves hm'
 rw [puts_append] at hK
 rw [List.nil_append] at h1
 have h3 := args_ofF h1 h2 (hr.agree (st' := puts st' up) fun s hs' => puts_agree _ _ (hs s (List.mem_append_right _ hs')))
 refine wp_of_enter (run_call a.eval rfl w) ?_
 have e : xs.map a.eval = (xs.toList.map a.eval).toArray := by apply Array.ext'; rw [Array.toList_map]
 rw [e]
 refine (hc w _ M1 f.F (fun g hg => ⟨h1.rep.F_lt hg, fun hm => (h1.bound g hm).2 hg⟩) h3 h1.nd (fun g hg => (h1.bound g hg).1)).mono ?_
 rintro e w' ⟨us, Lr, Lo, rfl, hk, hv, ho, hnd, hL⟩
 have hLo : Lo = [] := outs_nil h2 _ _ ho
 subst hLo
 rw [List.append_nil] at hnd hL
 exact ⟨_, rfl, h1.put_res hK hd hX us w' hk Lr (hv.same (fun g (hg : Res false f.F g) => hg.2) (fun _ _ => rfl) (fun _ _ => rfl)) hnd hL⟩
theorem step_call_ioS {d0 : Nat} {K : FuncId} {x : Operand} {xs : List Operand} {ts : Array TypeId} {args : List Arg} {rs : List Value} {d d' dd : D} {xr id : Nat} {path rd rd1 rd2 : List Nat} {up : List (Nat × AV)} {ty pos aft g} [FnOk P K]
  (hc : CallNS P K d args (rs.map fun v => .one (.lit v)) d') (hi : IoAt st x xr id path dd d rd) (hm : Moves (put st xr (.own id (dd.put path .hole))) xs args rd1 up) (hr : ReadsF (puts (put st xr (.own id (dd.put path .hole))) up) xs args rd2)
  (hx : puts (put st xr (.own id (dd.put path .hole))) up xr = .own id (dd.put path .hole)) (hne : (d0 == xr) = false) (hd : n d0 = true) :
  Step P n ⟨some d0, .call ⟨.value (.func K), (x :: xs).toArray, ts⟩, ty, pos, aft, g⟩ nid st (rd ++ (rd1 ++ rd2)) ((xr, .own id (dd.put path .hole)) :: (up ++ [(d0, litAV rs), (xr, .own id (dd.put path d'))])) := by
 intro X st' hs hX f a w hn hrep Kk Q hK
 obtain ⟨ρ, L, h⟩ := hrep
 subst hn
 have hne : d0 ≠ xr := by simpa using hne
 have hi' := hi.agree (st' := st') fun s hs' => hs s (List.mem_append_left _ hs')
 have ag : ∀ s, st' s = st s → put st' xr (.own id (dd.put path .hole)) s = put st xr (.own id (dd.put path .hole)) s := fun s e => by unfold put; split <;> simp_all
 have hm' := hm.agree (st' := put st' xr (.own id (dd.put path .hole))) fun s hs' => ag s (hs s (by simp [hs']))
 have hidX : X id := by
  have := h.ids xr
  rw [hi'.own.1] at this
  exact this id (by simp [AV.ids])
 obtain ⟨L0, M0, h0, hv0⟩ := h.toM.lendN hi'
 obtain ⟨L', M1, h1, h2⟩ := h0.moves hm'
 simp only [puts] at hK
 rw [puts_append] at hK
 rw [List.nil_append] at h1
 have hr' := hr.agree (st' := puts (put st' xr (.own id (dd.put path .hole))) up) fun s hs' => puts_agree _ _ (ag s (hs s (by simp [hs'])))
 have h3 := args_ofF h1 h2 hr'
 have hx' : puts (put st' xr (.own id (dd.put path .hole))) up xr = .own id (dd.put path .hole) := by
  exact (puts_agree up xr (by simp [put])).trans hx
 refine wp_of_enter (run_call a.eval rfl w) ?_
 have e : (x :: xs).toArray.map a.eval = (a.eval x :: xs.map a.eval).toArray := by simp
 rw [e]
 refine (hc w _ _ M0 M1 f.F ((ρ id).sub path) (fun g hg => ⟨h1.rep.F_lt hg, fun hm => (h1.bound g hm).2 hg⟩) hv0 h3 h1.nd (fun g hg => (h1.bound g hg).1)).mono ?_
 rintro e w' ⟨us, Lr, Lo, rfl, hk, hv, hout, hnd, hL⟩
 obtain ⟨rfl, rfl, hone⟩ := lits_res rs us Lr hv
 rw [List.nil_append] at hnd hL
 refine ⟨_, rfl, ?_⟩
 have hxs := h1.rep.slots xr
 rw [hx'] at hxs
 simp only [SR] at hxs
 have hnav := nav_put path dd d .hole hi.own.2.1
 obtain ⟨v1, A, L1, B, eL, h5, hset⟩ := RD.focus path _ _ _ _ hxs .hole hnav
 simp only [RD] at h5
 obtain ⟨hv1, _, rfl⟩ := h5
 have hev : a.eval x = v1 := by rw [hv1, Rho.sub_nil]; exact hi'.eval h
 rw [hev] at hout
 have hFs : ∀ g, f.F g → Same w w' g := fun g hg => hk.block g (h1.rep.F_lt hg) (fun hm => (h1.bound g hm).2 hg)
 have hLx : ∀ t, ∀ g ∈ L' t, Same w w' g := fun t g hg => hk.block g (h1.rep.bound t g hg).1 (h1.disj t g hg)
 have hfin := hset w' d' ((ρ id).sub path) Lo hFs (fun g hg => hLx xr g (by rw [eL]; rcases hg with hg | hg <;> simp [hg])) (RD.same (fun g (hg : Res false f.F g) => hg.2) (fun _ _ => rfl) d' _ _ Lo hout (fun _ _ => rfl))
 rw [put_put path dd d .hole d' hi.own.2.1, Rho.set_sub] at hfin
 refine hK _ _ ⟨ρ, fun s => if s = xr then A ++ (Lo ++ B) else if s = d0 then [] else L' s, ?_⟩
 have hL0 : ∀ g ∈ Lo, g ∉ L' xr := fun g hg hg' => by
  rcases (hL g hg).2 with h | h
  ·exact h1.disj xr g hg' h
  ·have := (h1.rep.bound xr g hg').1; omega
 have hndx := h1.rep.nodup xr
 rw [eL] at hndx
 have hst : ∀ s, s ≠ xr → s ≠ d0 → puts (puts (put st' xr (.own id (dd.put path .hole))) up) [(d0, litAV us), (xr, .own id (dd.put path d'))] s = puts (put st' xr (.own id (dd.put path .hole))) up s := fun s h1 h2 => by
  simp only [puts]; rw [put_other _ _ _ _ h1, put_other _ _ _ _ h2]
 refine h1.step (fun s => s = xr ∨ s = d0) (M0 ++ M1) _ _ _ w' _ _ (put_defers _ _ _) (put_size _ _ _) (hold_put _ hd) hk (fun g hg => .inr hg) (fun i hi => rfl) (fun s hs' => ?_) (fun s hs' => ?_) (fun s u hs' hu hsu g hg hgu => ?_) (fun _ h => .inl h) (fun s hs' i hi => ?_)
 ·simp only [not_or] at hs'
  exact ⟨hst s hs'.1 hs'.2, tmp_put_other _ _ _ _ hs'.2, by simp [hs'.1, hs'.2]⟩
 ·by_cases hsx : s = xr
  ·subst hsx
   rw [if_pos rfl, tmp_put_other _ _ _ _ (Ne.symm hne)]
   simp only [puts, put_same, SR]
   refine ⟨hfin, ?_, fun g hg => ?_⟩
   ·have hd2 : ∀ g ∈ Lo, g ∉ A ∧ g ∉ B := fun g hg => by
     have := hL0 g hg
     rw [eL] at this
     simp only [List.mem_append, not_or] at this
     exact ⟨this.1, this.2.2⟩
    simp only [List.nodup_append, List.mem_append] at hndx ⊢
    grind
   ·simp only [List.mem_append] at hg
    rcases hg with hg | hg | hg
    ·have : g ∈ L' s := by rw [eL]; simp [hg]
     exact ⟨Nat.lt_of_lt_of_le (h1.rep.bound s g this).1 hk.size, .inl ⟨s, .inl rfl, this⟩⟩
    ·exact ⟨(hL g hg).1, .inr (hL g hg).2⟩
    ·have : g ∈ L' s := by rw [eL]; simp [hg]
     exact ⟨Nat.lt_of_lt_of_le (h1.rep.bound s g this).1 hk.size, .inl ⟨s, .inl rfl, this⟩⟩
  ·have hs0 : s = d0 := hs'.resolve_left hsx
   subst hs0
   rw [if_neg hsx, if_pos rfl, tmp_put_same _ _ _ (h1.rep.size _ hd)]
   simp only [puts]
   rw [put_other _ _ _ _ hsx, put_same]
   exact ⟨SR_litAV us hone, List.nodup_nil, fun g hg => by simp at hg⟩
 ·by_cases hsx : s = xr
  ·have hu0 : u ≠ xr := fun e => hsu (hsx.trans e.symm)
   have hu' : u = d0 := hu.resolve_left hu0
   rw [if_neg hu0, if_pos hu'] at hgu
   simp at hgu
  ·have hs0 : s = d0 := hs'.resolve_left hsx
   rw [if_neg hsx, if_pos hs0] at hg
   simp at hg
 ·by_cases hsx : s = xr
  ·subst hsx
   simp only [puts, put_same, AV.ids, List.mem_singleton] at hi
   exact .inl (by rw [hi]; exact hidX)
  ·have hs0 : s = d0 := hs'.resolve_left hsx
   subst hs0
   simp only [puts] at hi
   rw [put_other _ _ _ _ hsx, put_same, litAV_ids] at hi
   simp at hi
theorem step_call_ioS0 {d0 : Nat} {K : FuncId} {x : Operand} {xs : List Operand} {ts : Array TypeId} {args : List Arg} {d d' dd : D} {xr id : Nat} {path rd rd1 rd2 : List Nat} {up : List (Nat × AV)} {ty pos aft g} [FnOk P K]
  (hc : CallNS P K d args [] d') (hi : IoAt st x xr id path dd d rd) (hm : Moves (put st xr (.own id (dd.put path .hole))) xs args rd1 up) (hr : ReadsF (puts (put st xr (.own id (dd.put path .hole))) up) xs args rd2)
  (hx : puts (put st xr (.own id (dd.put path .hole))) up xr = .own id (dd.put path .hole)) (hne : (d0 == xr) = false) (hd : n d0 = true) :
  Step P n ⟨some d0, .call ⟨.value (.func K), (x :: xs).toArray, ts⟩, ty, pos, aft, g⟩ nid st (rd ++ (rd1 ++ rd2)) ((xr, .own id (dd.put path .hole)) :: (up ++ [(d0, .dead), (xr, .own id (dd.put path d'))])) := step_call_ioS (rs := []) hc hi hm hr hx hne hd
theorem sI_ {d0 : Nat} {K : FuncId} {x : Operand} {xs : List Operand} {ts : Array TypeId} {args : List Arg} {v : Value} {d d' dd : D} {xr id : Nat} {path rd rd1 rd2 : List Nat} {up : List (Nat × AV)} {ty pos aft g} [FnOk P K]
  (hc : CallNS P K d args [.one (.lit v)] d') (hi : IoAt st x xr id path dd d rd) (hm : Moves (put st xr (.own id (dd.put path .hole))) xs args rd1 up) (hr : ReadsF (puts (put st xr (.own id (dd.put path .hole))) up) xs args rd2)
  (hx : puts (put st xr (.own id (dd.put path .hole))) up xr = .own id (dd.put path .hole)) (hne : (d0 == xr) = false) (hd : n d0 = true) :
  Step P n ⟨some d0, .call ⟨.value (.func K), (x :: xs).toArray, ts⟩, ty, pos, aft, g⟩ nid st (rd ++ (rd1 ++ rd2)) ((xr, .own id (dd.put path .hole)) :: (up ++ [(d0, .c (.lit v)), (xr, .own id (dd.put path d'))])) := step_call_ioS (rs := [v]) hc hi hm hr hx hne hd
theorem step_call_ioS2 {d0 : Nat} {K : FuncId} {x : Operand} {xs : List Operand} {ts : Array TypeId} {args : List Arg} {v v2 : Value} {d d' dd : D} {xr id : Nat} {path rd rd1 rd2 : List Nat} {up : List (Nat × AV)} {ty pos aft g} [FnOk P K]
  (hc : CallNS P K d args [.one (.lit v), .one (.lit v2)] d') (hi : IoAt st x xr id path dd d rd) (hm : Moves (put st xr (.own id (dd.put path .hole))) xs args rd1 up) (hr : ReadsF (puts (put st xr (.own id (dd.put path .hole))) up) xs args rd2)
  (hx : puts (put st xr (.own id (dd.put path .hole))) up xr = .own id (dd.put path .hole)) (hne : (d0 == xr) = false) (hd : n d0 = true) :
  Step P n ⟨some d0, .call ⟨.value (.func K), (x :: xs).toArray, ts⟩, ty, pos, aft, g⟩ nid st (rd ++ (rd1 ++ rd2)) ((xr, .own id (dd.put path .hole)) :: (up ++ [(d0, .tup [.c (.lit v), .c (.lit v2)]), (xr, .own id (dd.put path d'))])) := step_call_ioS (rs := [v, v2]) hc hi hm hr hx hne hd
end
end Go.Pv
