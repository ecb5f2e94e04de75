/- Rows of truth values; nil; calls whose results share memory that nobody writes. No condition. -/
import Derived.Test.YtmgmpnhlehonmaaGreatWPvR
import Derived.Test.YtmgmpnhlehonmaaGreatWGrB
set_option linter.unusedVariables false
set_option linter.unusedSimpArgs false
namespace Go.Pv
open Go.RowKit
def Zz (own : Bool) (P : Program) (K : FuncId) (d : D) (args : List Arg) (rs : List V) (d' : D) : Prop :=
 ∀ (w : World) (v : Value) (vs : List Value) (M0 M1 : List Nat) (F : Nat -> Prop) (r : Rho), (∀ g, F g -> g < w.heap.size /\ g ∉ M0 ++ M1) -> RD F w d r v M0 -> Xx F w args vs M1 -> (M0 ++ M1).Nodup -> (∀ g ∈ M0 ++ M1, g < w.heap.size) ->
  Calls P K (v :: vs).toArray w fun e w' => ∃ us Lr Lo, e = .returned (X9 us) /\ Zy w (M0 ++ M1) w' /\ VRs (Res own F) w' rs us Lr /\ RD (Res own F) w' d' r v Lo /\ (Lr ++ Lo).Nodup /\
   ∀ g ∈ Lr ++ Lo, g < w'.heap.size /\ (g ∈ M0 ++ M1 \/ w.heap.size <= g)
def Zm9 := Zz true
def Xn := Zz false
def D.isFlat : D -> Bool
 | .sl true _ cs => cs.all fun c => match c with | .lit _ => true | _ => false
 | _ => false
theorem Zna {F : Nat -> Prop} {w : World} : ∀ (cs : List D) (k : Nat) (ρ ρ' : Rho) (us : List Value) (L : List Nat), (cs.all fun c => match c with | .lit _ => true | _ => false) = true -> RDs F w cs k ρ us L -> RDs F w cs k ρ' us L
 | [], _, _, _, _, _, _, h => by simpa only [RDs] using h
 | c :: cs, k, ρ, ρ', us, L, hc, h => by
  simp only [List.all_cons, Bool.and_eq_true] at hc
  simp only [RDs] at h ⊢
  obtain ⟨u, us', L1, L2, rfl, rfl, h1, h2⟩ := h
  refine ⟨u, us', L1, L2, rfl, rfl, ?_, Zna cs (k + 1) ρ ρ' us' L2 hc.2 h2⟩
  cases c with
  | lit x => simpa only [RD] using h1
  | _ => simp at hc
theorem Znb (l : List Int) {sz : Nat} : (D.sl true sz (Ze l)).isFlat = true := by simp [D.isFlat, Ze]
section
variable {P : Program} {n : NN} {nid : Nat} {st : Nat -> AV} {f : Fr} {X : Nat -> Prop} {a : Act} {w : World} {ρ : Nat -> Rho} {L : Nat -> List Nat} {M : List Nat}
theorem Za8 {F : Nat -> Prop} {w : World} : ∀ {args : List Arg} {us : List Value} {L : List Nat}, Xg F w args us [] L -> L = []
 | [], _, _, h => by simp only [Xg] at h; exact h.2
 | .io _ :: args, us, L, h => by
  simp only [Xg] at h
  obtain ⟨_, _, _, _, _, _, _, _, e, _⟩ := h
  cases e
 | .sh _ :: args, us, L, h => by simp only [Xg] at h; obtain ⟨_, _, _, h⟩ := h; exact Za8 h
 | .mv _ :: args, us, L, h => by simp only [Xg] at h; obtain ⟨_, _, _, h⟩ := h; exact Za8 h
theorem Zm9.of_flat {K : FuncId} {d d' : D} {args : List Arg} {rs : List V} (h : Zj P K (.io d :: args) rs [d']) (hd : d.kids.isSome = true) (hf : d'.isFlat = true) : Zm9 P K d args rs d' := by
 intro w v vs M0 M1 F r hF hv hargs hnd hM
 refine (h w (v :: vs) (M0 ++ M1) F hF (by simp only [Xx]; exact ⟨v, vs, M0, M1, rfl, rfl, ⟨r, hv⟩, hargs⟩) hnd hM).mono ?_
 rintro e w' ⟨us, Lr, Lo, e1, hk, hr, ho, hn, hL⟩
 simp only [Xg] at ho
 obtain ⟨u, us', d1, ds', r', La, Lb, ea, eb, rfl, k1, k2⟩ := ho
 obtain ⟨rfl, rfl⟩ := List.cons.inj ea
 obtain ⟨rfl, rfl⟩ := List.cons.inj eb
 have hLb := Za8 k2
 subst hLb
 rw [List.append_nil] at hn hL
 refine ⟨us, Lr, La, e1, hk, hr, ?_, hn, hL⟩
 obtain ⟨cs0, hcs⟩ := Option.isSome_iff_exists.1 hd
 have hr0 : v = r [] := named hcs hv
 cases d' with
 | sl own sz cs =>
  cases own with
  | true =>
   simp only [D.isFlat] at hf
   simp only [RD] at k1 ⊢
   obtain ⟨_, us1, L0, L1, q1, q2, q3⟩ := k1
   exact ⟨hr0, us1, L0, L1, q1, q2, Zna cs 0 r' r us1 L1 hf q3⟩
  | false => simp [D.isFlat] at hf
 | _ => simp [D.isFlat] at hf
theorem Xk.lendN (h : Xk f X st a w ρ L M) {x : Operand} {xr id : Nat} {path rd : List Nat} {dd d : D} (hi : Qi st x xr id path dd d rd) :
  ∃ L' M1, Xk f X (put st xr (.own id (dd.put path .hole))) a w ρ L' (M ++ M1) /\ RD f.F w d ((ρ id).sub path) (a.eval x) M1 := by
 obtain ⟨hx, hn, _⟩ := hi.own
 have hids := h.rep.ids xr
 rw [hx] at hids
 obtain ⟨cs, hk⟩ := hi.kids
 obtain ⟨v1, A, L1, B, eL, h3, hset⟩ := h.rep.part hx hn
 have hv1 : v1 = (ρ id).sub path [] := named hk h3
 have hev : a.eval x = v1 := by rw [hv1, Rho.sub_nil]; exact hi.eval h.rep
 have hfin := hset w .hole ((ρ id).sub path) [] (fun _ _ => rfl) (fun _ _ => rfl) (by simp only [RD]; exact ⟨hv1, h3.one, trivial⟩)
 rw [Rho.set_sub] at hfin
 have hnd := h.rep.nodup xr
 rw [eL] at hnd
 simp only [List.nodup_append, List.mem_append] at hnd
 rw [hev]
 refine ⟨_, L1, h.detach xr (.own id (dd.put path .hole)) (A ++ ([] ++ B)) L1 (by simp only [SR]; exact hfin) w8 (fun g hg => ?_) ?_ hnd.2.1.1 (fun g hg hg' => ?_), h3⟩
 ·rw [eL]; simp only [List.nil_append, List.mem_append] at hg ⊢; grind
 ·simp only [List.nil_append, List.nodup_append]; grind
 ·simp only [List.nil_append, List.mem_append] at hg; grind
theorem Zi6 {d0 : Nat} {K : FuncId} {x : Operand} {xs : List Operand} {ts : Array TypeId} {args : List Arg} {rs : List Value} {d d' dd : D} {xr id : Nat} {path rd rd1 rd2 : List Nat} {up : List (Nat × AV)} {ty pos aft g} [Zs P K]
  (hc : Zm9 P K d args (rs.map fun v => .one (.lit v)) d') (hi : Qi st x xr id path dd d rd) (hm : Xr (put st xr (.own id (dd.put path .hole))) xs args rd1 up) (hr : Va (Zn (put st xr (.own id (dd.put path .hole))) up) xs args rd2)
  (hx : Zn (put st xr (.own id (dd.put path .hole))) up xr = .own id (dd.put path .hole)) (hne : (d0 == xr) = false) (hd : n d0 = true) :
  Zg P n ⟨some d0, .call ⟨.value (.func K), (x :: xs).toArray, ts⟩, ty, pos, aft, g⟩ nid st (rd ++ (rd1 ++ rd2)) ((xr, .own id (dd.put path .hole)) :: (up ++ [(d0, Zby rs), (xr, .own id (dd.put path d'))])) := by
 intro X st' hs hX f a w hn hrep Kk Q hK
 obtain ⟨ρ, L, h⟩ := hrep
 subst hn
 have hne : d0 ≠ xr := by simpa using hne
 have hi' := hi.agree (st' := st') fun s hs' => hs s (List.mem_append_left _ hs')
 have ag : ∀ s, st' s = st s -> put st' xr (.own id (dd.put path .hole)) s = put st xr (.own id (dd.put path .hole)) s := fun s e => by unfold put; split <;> simp_all
 have hm' := hm.agree (st' := put st' xr (.own id (dd.put path .hole))) fun s hs' => ag s (hs s q9)
 have hidX : X id := by
  have := h.ids xr
  rw [hi'.own.1] at this
  exact this id u3
 obtain ⟨L0, M0, h0, hv0⟩ := h.toM.lendN hi'
 obtain ⟨L', M1, h1, h2⟩ := h0.moves hm'
 simp only [Zn] at hK
 rw [Zx] at hK
 rw [List.nil_append] at h1
 have hr' := hr.agree (st' := Zn (put st' xr (.own id (dd.put path .hole))) up) fun s hs' => Xa _ _ (ag s (hs s q9))
 have h3 := Hx (rd := []) h1 h2 hr'
 have hx' : Zn (put st' xr (.own id (dd.put path .hole))) up xr = .own id (dd.put path .hole) := by
  exact (Xa up xr (by simp [put])).trans hx
 refine V6 (Kr a.eval rfl w) ?_
 have e : (x :: xs).toArray.map a.eval = (a.eval x :: xs.map a.eval).toArray := by simp
 rw [e]
 refine (hc w _ _ M0 M1 (Qx w (M0 ++ M1)) ((ρ id).sub path) (fun _ h => h) (RD.same (fun _ hg => h1.free hg) (fun _ _ => rfl) d _ _ M0 hv0 (fun _ _ => rfl)) h3 h1.nd (fun g hg => (h1.bound g hg).1)).mono ?_
 rintro e w' ⟨us, Lr, Lo, rfl, hk, hv, hout, hnd, hL⟩
 obtain ⟨rfl, rfl, hone⟩ := Zbz rs us Lr hv
 rw [List.nil_append] at hnd hL
 refine ⟨_, rfl, ?_⟩
 have hxs := h1.rep.slots xr
 rw [hx'] at hxs
 simp only [SR] at hxs
 have hnav := Zfs path dd d .hole hi.own.2.1
 obtain ⟨v1, A, L1, B, eL, h5, hset⟩ := RD.focus path _ _ _ _ hxs .hole hnav
 simp only [RD] at h5
 obtain ⟨hv1, _, rfl⟩ := h5
 have hev : a.eval x = v1 := by rw [hv1, Rho.sub_nil]; exact hi'.eval h
 rw [hev] at hout
 have hFs : ∀ g, f.F g -> Vh w w' g := fun g hg => hk.block g (h1.rep.F_lt hg) (fun hm => (h1.bound g hm).2 hg)
 have hLx : ∀ t, ∀ g ∈ L' t, Vh w w' g := fun t g hg => hk.block g (h1.rep.bound t g hg).1 (h1.disj t g hg)
 have hfin := hset w' d' ((ρ id).sub path) Lo hFs (fun g hg => hLx xr g (by rw [eL]; rcases hg with hg | hg <;> simp [hg])) (RD.same (fun g hg => by cases hg.1) (fun g hg => by cases hg.1) d' _ _ Lo hout (fun _ _ => rfl))
 rw [Zft path dd d .hole d' hi.own.2.1, Rho.set_sub] at hfin
 refine hK _ _ ⟨ρ, fun s => if s = xr then A ++ (Lo ++ B) else if s = d0 then [] else L' s, ?_⟩
 have hL0 : ∀ g ∈ Lo, g ∉ L' xr := fun g hg hg' => by
  rcases (hL g hg).2 with h | h
  ·exact h1.disj xr g hg' h
  ·have := (h1.rep.bound xr g hg').1; omega
 have hndx := h1.rep.nodup xr
 rw [eL] at hndx
 have hst : ∀ s, s ≠ xr -> s ≠ d0 -> Zn (Zn (put st' xr (.own id (dd.put path .hole))) up) [(d0, Zby us), (xr, .own id (dd.put path d'))] s = Zn (put st' xr (.own id (dd.put path .hole))) up s := fun s h1 h2 => by
  simp only [Zn]; rw [Zi _ _ _ _ h1, Zi _ _ _ _ h2]
 refine h1.step (fun s => s = xr \/ s = d0) (M0 ++ M1) _ _ _ w' _ _ (X4 _ _ _) (X7 _ _ _) (Yj _ hd) hk (fun g hg => .inr hg) (fun i hi => rfl) (fun s hs' => ?_) (fun s hs' => ?_) (fun s u hs' hu hsu g hg hgu => ?_) (fun _ h => .inl h) (fun s hs' i hi => ?_)
 ·simp only [not_or] at hs'
  exact ⟨hst s hs'.1 hs'.2, Zm _ _ _ _ hs'.2, by simp [hs'.1, hs'.2]⟩
 ·by_cases hsx : s = xr
  ·subst hsx
   rw [if_pos rfl, Zm _ _ _ _ (Ne.symm hne)]
   simp only [Zn, Zo, SR]
   refine ⟨hfin, ?_, fun g hg => ?_⟩
   ·have hd2 : ∀ g ∈ Lo, g ∉ A /\ g ∉ B := fun g hg => by
     have := hL0 g hg
     rw [eL] at this
     simp only [List.mem_append, not_or] at this
     exact ⟨this.1, this.2.2⟩
    simp only [List.nodup_append, List.mem_append] at hndx ⊢
    grind
   ·simp only [List.mem_append] at hg
    rcases hg with hg | hg | hg
    ·have : g ∈ L' s := by rw [eL]; simp [hg]
     exact ⟨Nat.lt_of_lt_of_le (h1.rep.bound s g this).1 hk.size, .inl ⟨s, .inl rfl, this⟩⟩
    ·exact ⟨(hL g hg).1, .inr (hL g hg).2⟩
    ·have : g ∈ L' s := by rw [eL]; simp [hg]
     exact ⟨Nat.lt_of_lt_of_le (h1.rep.bound s g this).1 hk.size, .inl ⟨s, .inl rfl, this⟩⟩
  ·have hs0 : s = d0 := hs'.resolve_left hsx
   subst hs0
   rw [if_neg hsx, if_pos rfl, Z9 _ _ _ (h1.rep.size _ hd)]
   simp only [Zn]
   rw [Zi _ _ _ _ hsx, Zo]
   exact ⟨Zm4 us hone, List.nodup_nil, fun g hg => by simp at hg⟩
 ·by_cases hsx : s = xr
  ·have hu0 : u ≠ xr := fun e => hsu (hsx.trans e.symm)
   have hu' : u = d0 := hu.resolve_left hu0
   rw [if_neg hu0, if_pos hu'] at hgu
   simp at hgu
  ·have hs0 : s = d0 := hs'.resolve_left hsx
   rw [if_neg hsx, if_pos hs0] at hg
   simp at hg
 ·by_cases hsx : s = xr
  ·subst hsx
   simp only [Zn, Zo, AV.ids, List.mem_singleton] at hi
   exact .inl (by rw [hi]; exact hidX)
  ·have hs0 : s = d0 := hs'.resolve_left hsx
   subst hs0
   simp only [Zn] at hi
   rw [Zi _ _ _ _ hsx, Zo, Zjn] at hi
   simp at hi
theorem Zg3 {d0 : Nat} {K : FuncId} {x : Operand} {xs : List Operand} {ts : Array TypeId} {args : List Arg} {d d' dd : D} {xr id : Nat} {path rd rd1 rd2 : List Nat} {up : List (Nat × AV)} {ty pos aft g} [Zs P K]
  (hc : Zm9 P K d args [] d') (hi : Qi st x xr id path dd d rd) (hm : Xr (put st xr (.own id (dd.put path .hole))) xs args rd1 up) (hr : Va (Zn (put st xr (.own id (dd.put path .hole))) up) xs args rd2)
  (hx : Zn (put st xr (.own id (dd.put path .hole))) up xr = .own id (dd.put path .hole)) (hne : (d0 == xr) = false) (hd : n d0 = true) :
  Zg P n ⟨some d0, .call ⟨.value (.func K), (x :: xs).toArray, ts⟩, ty, pos, aft, g⟩ nid st (rd ++ (rd1 ++ rd2)) ((xr, .own id (dd.put path .hole)) :: (up ++ [(d0, .dead), (xr, .own id (dd.put path d'))])) := Zi6 (rs := []) hc hi hm hr hx hne hd
def AV.root : AV -> Nat -> Prop
 | .own i _, k => i = k
 | _, _ => False
def Zd (P : Program) (fn : Func) (d : D) (args : List Arg) (rs : List V) (d' : D) (e : Exit) (s : Nat -> AV) (_ : Nat) : Prop :=
 (e = .normal \/ e = .ret) /\ ∃ s', Kt P s fn.results.toList rs s' /\ s' 0 = .own 0 d'
theorem Zd.ret {fn : Func} {d : D} {args : List Arg} {rs rs' : List V} {d' d1 : D} {s s' : Nat -> AV} {k : Nat} (hr : Kt P s fn.results.toList rs' s') (ho : s' 0 = .own 0 d1) (h : rs' = rs) (h' : d1 = d') : Zd P fn d args rs d' .ret s k := by
 subst h h'; exact ⟨.inr rfl, s', hr, ho⟩
theorem Zd.normal {fn : Func} {d : D} {args : List Arg} {rs rs' : List V} {d' d1 : D} {s s' : Nat -> AV} {k : Nat} (hr : Kt P s fn.results.toList rs' s') (ho : s' 0 = .own 0 d1) (h : rs' = rs) (h' : d1 = d') : Zd P fn d args rs d' .normal s k := by
 subst h h'; exact ⟨.inl rfl, s', hr, ho⟩
theorem Zsc {own : Bool} {S0 : List (Value × List Int)} (hS0 : (S0 = [] /\ own = true) \/ S0 = Kg) {K : FuncId} {fn : Func} {c : Code} {d : D} {args : List Arg} {rs : List V} {d' : D} (m : Nat) (hf : P.funcs[K]? = some fn) (hb : fn.body = some c) (hm : fn.ntmps = m) (hs : own = true -> rs.all V.solid = true /\ d'.solid = true)
  (h : WpA P ⟨fun t => decide (t < m) && !([0].contains t), [], [], S0⟩ c (X2 (.io d :: args)) (args.length + 1) (Zd P fn d args rs d')) : Zz own P K d args rs d' := by
 intro w v vs M0 M1 F r hF hv hargs hnd hM
 obtain ⟨Ls', e1', e2', eM', e4'⟩ := hargs.split
 have hargs0 : Xx F w (.io d :: args) (v :: vs) (M0 ++ M1) := by
  simp only [Xx]; exact ⟨v, vs, M0, M1, rfl, rfl, ⟨r, hv⟩, hargs⟩
 generalize hM2 : M0 ++ M1 = M at *
 have eM : M = (M0 :: Ls').flatten := by rw [<- hM2, eM']; simp
 refine calls_of_wp hf hb ?_
 have htmp : ∀ t, tmp { tmps := (v :: vs).toArray ++ Array.replicate (fn.ntmps - (v :: vs).toArray.size) undef, defers := [] } t = (v :: vs).getD t undef := by
  intro t
  generalize v :: vs = vs
  unfold tmp
  simp only [Array.getD_eq_getD_getElem?, List.getD_eq_getElem?_getD, Array.getElem?_append, List.size_toArray, List.getElem?_toArray, Array.getElem?_replicate]
  by_cases ht : t < vs.length
  ·simp [ht]
  ·simp only [ht, if_false]
   rw [List.getElem?_eq_none j2]
   split <;> rfl
 let n : NN := ⟨fun t => decide (t < m) && !([0].contains t), [], [], S0⟩
 have hn0 : ∀ t, n t = true -> t < fn.ntmps := fun t ht => by
  rw [hm]; simp only [n, Bool.and_eq_true, decide_eq_true_eq] at ht; exact ht.1
 have hSS : ∀ q ∈ S0, Ui F w q.1 1 (q.2.map (.int .i64)) := fun q hq => by
  rcases hS0 with h | h
  ·rw [h.1] at hq; exact (List.not_mem_nil hq).elim
  ·rw [h, Kg, List.mem_singleton] at hq
   subst hq
   exact ⟨none, 0, 0, rfl, rfl, Nat.le_refl _, Nat.zero_le _, fun h => absurd rfl h⟩
 let f : Fr := { w0 := w, M := M, N := n, H := [(0, v)], F := F, hF := hF, R := [(0, r)], hK := fun _ h => (List.not_mem_nil h).elim, hR := fun _ h => (List.not_mem_nil h).elim, hS := hSS }
 let Ls := M0 :: Ls'
 have hL : ∀ t, (Ls.getD t []).Nodup /\ ∀ g ∈ Ls.getD t [], g ∈ M := by
  intro t
  rw [List.getD_eq_getElem?_getD]
  cases ht : Ls[t]? with
  | none => simp
  | some Lt =>
   have hmm := List.mem_of_getElem? ht
   rw [eM] at hnd ⊢
   unfold List.Nodup at hnd
   rw [List.pairwise_flatten] at hnd
   exact ⟨hnd.1 Lt hmm, fun g hg => List.mem_flatten.2 ⟨Lt, hmm, hg⟩⟩
 have hch : ∀ t, ∃ r1 : Rho, (t = 0 -> r1 = r) /\ ∀ ρ : Nat -> Rho, ρ t = r1 -> SR F w ρ (X2 (.io d :: args) t) ((v :: vs).getD t undef) (Ls.getD t []) := by
  intro t
  cases t with
  | zero => exact ⟨r, fun _ => rfl, fun ρ e => by simp only [X2, Arg.av, SR, List.getElem?_cons_zero]; rw [e]; exact hv⟩
  | succ t =>
   unfold X2
   rw [List.getElem?_cons_succ]
   cases ht : args[t]? with
   | none =>
    have hlt : args.length <= t := by simpa using ht
    refine ⟨fun _ => undef, by simp, fun ρ _ => ?_⟩
    rw [List.getD_eq_getElem?_getD (l := Ls), List.getElem?_eq_none (by simp only [Ls, List.length_cons]; omega)]
    simp only [SR, Option.getD_none]
   | some x =>
    have hlt : t < args.length := (List.getElem?_eq_some_iff.1 ht).1
    have hu : vs[t]? = some (vs[t]' j2) := List.getElem?_eq_getElem _
    have hl : Ls'[t]? = some (Ls'[t]' j2) := List.getElem?_eq_getElem _
    obtain ⟨r1, hr1⟩ := (e4' t x _ _ ht hu hl).sr (t + 1)
    refine ⟨r1, by simp, fun ρ e => ?_⟩
    have := hr1 ρ e
    rw [List.getD_eq_getElem?_getD, List.getD_eq_getElem?_getD, List.getElem?_cons_succ, hu]
    simp only [Ls, List.getElem?_cons_succ, hl]
    exact this
 obtain ⟨ρ, hρ⟩ := Classical.axiomOfChoice hch
 have hrep : Rep f (fun i => i < args.length + 1) (X2 (.io d :: args)) { tmps := (v :: vs).toArray ++ Array.replicate (fn.ntmps - (v :: vs).toArray.size) undef, defers := [] } w := by
  refine ⟨ρ, fun t => Ls.getD t [], rfl, fun d hd => ?_, fun q hq => ?_, ⟨rfl, rfl, rfl, Nat.le_refl _, fun _ _ _ => rfl, Nat.le_refl _⟩, fun t => ?_, fun t => (hL t).1, fun t u htu g hg hgu => ?_, fun t g hg => ?_, fun t i hi => ?_, fun t g hg => .inl ((hL t).2 g hg), fun q hq => ?_⟩
  ·have := hn0 d hd
   simp
   omega
  ·have : q = (0, v) := by simpa [f] using hq
   subst this
   exact ⟨by simp [f, n], by rw [htmp 0]; rfl⟩
  ·rw [htmp t]; exact (hρ t).2 ρ rfl
  ·have hnd2 := hnd
   unfold List.Nodup at hnd2
   rw [eM, List.pairwise_flatten] at hnd2
   rw [List.getD_eq_getElem?_getD] at hg hgu
   cases ht : Ls[t]? with
   | none => simp [ht] at hg
   | some Lt =>
    cases hu : Ls[u]? with
    | none => simp [hu] at hgu
    | some Lu =>
     simp only [ht, hu, Option.getD_some] at hg hgu
     obtain ⟨h1, h2⟩ := List.getElem?_eq_some_iff.1 ht
     obtain ⟨h3, h4⟩ := List.getElem?_eq_some_iff.1 hu
     rcases Nat.lt_or_ge t u with hlt | hge
     ·have := List.pairwise_iff_getElem.1 hnd2.2 t u h1 h3 hlt
      rw [h2, h4] at this
      exact this g hg g hgu rfl
     ·have := List.pairwise_iff_getElem.1 hnd2.2 u t h3 h1 j2
      rw [h2, h4] at this
      exact this g hgu g hg rfl
  ·have hm := (hL t).2 g hg
   exact ⟨hM g hm, fun hf => (hF g hf).2 hm⟩
  ·unfold X2 at hi
   cases ht : (Arg.io d :: args)[t]? with
   | none => simp [ht, AV.ids] at hi
   | some x =>
    simp only [ht] at hi
    rw [Arg.av_ids x t i hi]
    have := (List.getElem?_eq_some_iff.1 ht).1
    simpa using this
  ·have : q = (0, r) := by simpa [f] using hq
   subst this
   exact ⟨by show 0 < args.length + 1; omega, (hρ 0).1 rfl⟩
 refine Code.wp_mono (fun e a' w' hq => ?_) (h f _ w rfl (.of hrep))
 obtain ⟨s1, nx', ⟨he, s', hres, h0⟩, ⟨f', kf, ρ', L', hr⟩⟩ := hq
 have hmine : ∀ g, (g ∈ f'.M \/ f'.w0.heap.size <= g) -> g ∈ M \/ w.heap.size <= g := fun g hg => by
  rcases hg with h1 | h1
  ·exact kf.M g h1
  ·exact .inr (Nat.le_trans kf.keep.size h1)
 have hF' : own = false -> f'.F = F := fun ho => by
  rcases hS0 with h | h
  ·rw [h.2] at ho; cases ho
  ·have : f' = f := kf.still (by show S0 ≠ []; rw [h]; simp [Kg])
   rw [this]
 have fin : bodyPost P fn (fun e w' => ∃ us Lr Lo, e = .returned (X9 us) /\ Zy w M w' /\ VRs (Res own F) w' rs us Lr /\ RD (Res own F) w' d' r v Lo /\ (Lr ++ Lo).Nodup /\ ∀ g ∈ Lr ++ Lo, g < w'.heap.size /\ (g ∈ M \/ w.heap.size <= g)) .ret a' w' := by
  obtain ⟨L2, M2, us, hm, hrun, hv2⟩ := hr.toM.ress hres
  rw [List.nil_append] at hm
  have hsl := hm.rep.slots 0
  rw [h0] at hsl
  simp only [SR] at hsl
  have hv0 : tmp a' 0 = v := (hr.hold (0, v) (by rw [kf.H]; simp [f])).2
  have hr0 : ρ' 0 = r := (hr.names (0, r) (by rw [kf.R]; simp [f])).2
  rw [hv0, hr0] at hsl
  refine ⟨hr.defers, X9 us, Ku hrun, us, M2, L2 0, rfl, kf.keep.trans hr.keep (fun g hg hlt => by
   rcases hmine g (.inl hg) with h1 | h1
   ·exact h1
   ·have : f.w0 = w := rfl
    rw [this] at hlt
    omega), ?_, ?_, ?_, ?_⟩
  ·cases hown : own with
   | true => exact hv2.solid (hs hown).1
   | false => exact hv2.same (fun g hg => ⟨rfl, by rw [<- hF' hown]; exact hg⟩) (fun _ _ => rfl) (fun _ _ => rfl)
  ·cases hown : own with
   | true => exact RD.solid d' r v _ hsl (hs hown).2
   | false => exact RD.same (fun g hg => ⟨rfl, by rw [<- hF' hown]; exact hg⟩) (fun _ _ => rfl) d' r v _ hsl (fun _ _ => rfl)
  ·rw [List.nodup_append]
   exact ⟨hm.nd, hm.rep.nodup 0, fun g hg g' hg' e => by subst e; exact hm.disj 0 g hg' hg⟩
  ·intro g hg
   rw [List.mem_append] at hg
   rcases hg with hg | hg
   ·exact ⟨(hm.bound g hg).1, hmine g (hm.mine g hg)⟩
   ·exact ⟨(hm.rep.bound 0 g hg).1, hmine g (hm.rep.mine 0 g hg)⟩
 rcases he with rfl | rfl
 ·exact fin
 ·exact fin
theorem cN_ {K : FuncId} {fn : Func} {c : Code} {d : D} {args : List Arg} {rs : List V} {d' : D} (m : Nat) (hf : P.funcs[K]? = some fn) (hb : fn.body = some c) (hm : fn.ntmps = m)
  (h : WpA P ⟨fun t => decide (t < m) && !([0].contains t), [], [], Kg⟩ c (X2 (.io d :: args)) (args.length + 1) (Zd P fn d args rs d')) : Xn P K d args rs d' :=
 Zsc (.inr rfl) m hf hb hm (fun h => by cases h) h
end
end Go.Pv
namespace Go.Pv
open Go.RowKit
abbrev Xz (l : List Bool) : List D := l.map fun b => D.lit (.bool b)
theorem Zjq {l : List Bool} {i : Nat} (h : i < l.length) : (l.map fun b => D.lit (.bool b))[i]? = some (.lit (.bool (l.getD i false))) := H0 false h
theorem eB_ (l : List Bool) : D.erases (Xz l) = Xz l := by rw [D.erases_eq]; simp [D.erase]
theorem Uo (l : List Bool) : D.solids (Xz l) = true := by
 unfold Xz
 induction l with
 | nil => rfl
 | cons a l ih => simp only [List.map_cons, D.solids, D.solid, ih, Bool.and_self]
theorem Ug {id sz : Nat} {l l' : List Bool} (h : l = l') : AV.own id (.sl true sz (Xz l)) = AV.own id (.sl true sz (Xz l')) := by rw [h]
section
variable {P : Program} {n : NN} {nid : Nat} {st : Nat -> AV} {f : Fr} {X : Nat -> Prop} {a : Act} {w : World} {ρ : Nat -> Rho} {L : Nat -> List Nat} {M : List Nat}
theorem Zdj {t x id off : Nat} {path : List Nat} {xv : Operand} {v : Bool} {T : TypeId} {dd d1 : D} {l : List Bool} {ty pos aft g} [X6 P T] (h : st t = .ptr x id path off) (hx : st x = .own id dd) (hn' : dd.nav path = some d1) (hk : d1.kids = some (Xz l))
  (hv : Lit st xv (.bool v)) (hlt : off < l.length) :
  Zg P n ⟨none, .store T (.tmp t) xv, ty, pos, aft, g⟩ nid st (t :: x :: Z5 xv) [(x, .own id (dd.put path (d1.withKids (Xz (l.set off v)))))] := by
 have := Qf (P := P) (n := n) (nid := nid) (T := T) (ty := ty) (pos := pos) (aft := aft) (g := g) h hx hn' hk (Zjq hlt) hv rfl
 rwa [show (Xz l).set off (.lit (.bool v)) = Xz (l.set off v) by simp [Xz, List.map_set]] at this
theorem Zfe (m : Nat) : List.replicate m (D.lit (.bool false)) = Xz (List.replicate m false) := by simp [Xz]
theorem Zff {d : Nat} {T : TypeId} {x y : Operand} {k k' : IntKind} {i i' : Int} {ty pos aft g} [hT : Wu P T (.lit (.bool false))] (hx : Lit st x (.int k i)) (hy : Lit st y (.int k' i')) (he : i' = i) (h0 : 0 <= i) (hm : i <= 1099511627776) (hd : n d = true) :
  Zg P n ⟨some d, .makeSlice T x y, ty, pos, aft, g⟩ nid st (Z5 x ++ Z5 y) [(d, .own nid (.sl true 1 (Xz (List.replicate i.toNat false))))] := by
 rw [<- Zfe]
 exact Zc9 hx hy (Int.toNat_of_nonneg h0).symm (by rw [he]; exact (Int.toNat_of_nonneg h0).symm) j2 hd
theorem Zk3 {d : Nat} {x : Operand} {T T' : TypeId} {ty pos aft g} {rd : List Nat} {sz sz' : Nat} {cs : List D} [hT : Zu P T sz'] (hv : U3 st x rd sz cs) (hc : cs ≠ []) (hd : n d = true) :
  Zg P n ⟨some d, .binOp .eql T x (.const (.slice none 0 0)) T', ty, pos, aft, g⟩ nid st rd [(d, .c (.lit (.bool false)))] := by
 intro X st' hs hX f a w hn hrep K Q hK
 obtain ⟨ρ, L, hr⟩ := hrep
 subst hn
 obtain ⟨us, r, ⟨a0, n0, c0, e0, h1, h2, h3, h4⟩, h5⟩ := (hv.agree hs).read hr
 obtain ⟨e, i, z, t1, _⟩ := hT.out
 have hu : us ≠ [] := by
  rintro rfl
  have := h5.length
  rw [D.erases_eq, List.length_map] at this
  exact hc (List.eq_nil_of_length_eq_zero this.symm)
 obtain ⟨b, rfl, _⟩ := h4 hu
 refine wV_ (u := .bool false) (w' := w) ?_ (hr.done_lit (nid := nid) (d := d) (K := K) hK hd rfl)
 simp only [execOp, Sem.run_bind]
 have e1 : a.eval (.const (.slice none 0 0)) = .slice none 0 0 := rfl
 rw [e0, e1]
 have hg : (eqGuard .eql T x (.const (.slice none 0 0)) (.slice (some b) n0 c0) (.slice none 0 0)).run P w = .ok () w := by
  unfold eqGuard; simp
 simp only [hg, Result.andThen_ok, binOp, Sem.run_bind]
 rw [run_equal_slice_nil (P := P) w T e (some b) n0 c0 t1]
 simp
theorem Zk4 {d : Nat} {x : Operand} {T T' : TypeId} {ty pos aft g} {rd : List Nat} {sz sz' : Nat} {cs : List D} [hT : Zu P T sz'] (hv : U3 st x rd sz cs) (hc : cs ≠ []) (hd : n d = true) :
  Zg P n ⟨some d, .binOp .neq T x (.const (.slice none 0 0)) T', ty, pos, aft, g⟩ nid st rd [(d, .c (.lit (.bool true)))] := by
 intro X st' hs hX f a w hn hrep K Q hK
 obtain ⟨ρ, L, hr⟩ := hrep
 subst hn
 obtain ⟨us, r, ⟨a0, n0, c0, e0, h1, h2, h3, h4⟩, h5⟩ := (hv.agree hs).read hr
 obtain ⟨e, i, z, t1, _⟩ := hT.out
 have hu : us ≠ [] := by
  rintro rfl
  have := h5.length
  rw [D.erases_eq, List.length_map] at this
  exact hc (List.eq_nil_of_length_eq_zero this.symm)
 obtain ⟨b, rfl, _⟩ := h4 hu
 refine wV_ (u := .bool true) (w' := w) ?_ (hr.done_lit (nid := nid) (d := d) (K := K) hK hd rfl)
 simp only [execOp, Sem.run_bind]
 have e1 : a.eval (.const (.slice none 0 0)) = .slice none 0 0 := rfl
 rw [e0, e1]
 have hg : (eqGuard .neq T x (.const (.slice none 0 0)) (.slice (some b) n0 c0) (.slice none 0 0)).run P w = .ok () w := by
  unfold eqGuard; simp
 simp only [hg, Result.andThen_ok, binOp, Sem.run_bind]
 rw [run_equal_slice_nil (P := P) w T e (some b) n0 c0 t1]
 simp
theorem Zfg {d : Nat} {x : Operand} {T T' : TypeId} {ty pos aft g} {sz' : Nat} [hT : Zu P T sz'] (hv : Lit st x (.slice none 0 0)) (hd : n d = true) :
  Zg P n ⟨some d, .binOp .eql T x (.const (.slice none 0 0)) T', ty, pos, aft, g⟩ nid st (Z5 x) [(d, .c (.lit (.bool true)))] := by
 intro X st' hs hX f a w hn hrep K Q hK
 obtain ⟨ρ, L, hr⟩ := hrep
 subst hn
 obtain ⟨e, i, z, t1, _⟩ := hT.out
 have e0 := Lit.eval hr (hv.agree hs)
 refine wV_ (u := .bool true) (w' := w) ?_ (hr.done_lit (nid := nid) (d := d) (K := K) hK hd rfl)
 simp only [execOp, Sem.run_bind]
 have e1 : a.eval (.const (.slice none 0 0)) = .slice none 0 0 := rfl
 rw [e0, e1]
 have hg : (eqGuard .eql T x (.const (.slice none 0 0)) (.slice none 0 0) (.slice none 0 0)).run P w = .ok () w := by
  unfold eqGuard; simp
 simp only [hg, Result.andThen_ok, binOp, Sem.run_bind]
 rw [run_equal_slice_nil (P := P) w T e none 0 0 t1]
 simp
theorem Zfh {d : Nat} {x : Operand} {T T' : TypeId} {ty pos aft g} {sz' : Nat} [hT : Zu P T sz'] (hv : Lit st x (.slice none 0 0)) (hd : n d = true) :
  Zg P n ⟨some d, .binOp .neq T x (.const (.slice none 0 0)) T', ty, pos, aft, g⟩ nid st (Z5 x) [(d, .c (.lit (.bool false)))] := by
 intro X st' hs hX f a w hn hrep K Q hK
 obtain ⟨ρ, L, hr⟩ := hrep
 subst hn
 obtain ⟨e, i, z, t1, _⟩ := hT.out
 have e0 := Lit.eval hr (hv.agree hs)
 refine wV_ (u := .bool false) (w' := w) ?_ (hr.done_lit (nid := nid) (d := d) (K := K) hK hd rfl)
 simp only [execOp, Sem.run_bind]
 have e1 : a.eval (.const (.slice none 0 0)) = .slice none 0 0 := rfl
 rw [e0, e1]
 have hg : (eqGuard .neq T x (.const (.slice none 0 0)) (.slice none 0 0) (.slice none 0 0)).run P w = .ok () w := by
  unfold eqGuard; simp
 simp only [hg, Result.andThen_ok, binOp, Sem.run_bind]
 rw [run_equal_slice_nil (P := P) w T e none 0 0 t1]
 simp
def Zuc (l : List Int) : V := match l with
 | [] => .one (.lit (.slice none 0 0))
 | x :: l => .one (.sl true 1 (Ze (x :: l)))
inductive Zpb : List AV -> List D -> Prop
 | nil : Zpb [] []
 | cons {d l ds} : Zpb l ds -> Zpb (.c d :: l) (d :: ds)
inductive Wz (st : Nat -> AV) : Operand -> List Nat -> V -> Prop
 | lit {x v} : Lit st x v -> v.oneCell' = true -> Wz st x (Z5 x) (.one (.lit v))
 | c {t d} : st t = .c d -> Wz st (.tmp t) [t] (.one d)
 | agg {t l ds} : st t = .agg l -> Zpb l ds -> Wz st (.tmp t) [t] (.agg ds)
inductive Yl (st : Nat -> AV) : List Operand -> List Arg -> List Nat -> Prop
 | nil : Yl st [] [] []
 | sh {x xs v args rd rds} : Wz st x rd v -> Yl st xs args rds -> Yl st (x :: xs) (.sh v :: args) (rd ++ rds)
 | mv {x xs v args rds} : Yl st xs args rds -> Yl st (x :: xs) (.mv v :: args) rds
theorem Wz.agree {st st' : Nat -> AV} {x : Operand} {rd : List Nat} {v : V} (h : Wz st x rd v) (hs : ∀ s ∈ rd, st' s = st s) : Wz st' x rd v := by
 cases h with
 | lit h h1 => exact .lit (h.agree hs) h1
 | c h => exact .c ((hs _ (by simp)).trans h)
 | agg h h1 => exact .agg ((hs _ (by simp)).trans h) h1
theorem Yl.agree {st st' : Nat -> AV} : ∀ {xs : List Operand} {args : List Arg} {rd : List Nat}, Yl st xs args rd -> (∀ s ∈ rd, st' s = st s) -> Yl st' xs args rd
 | _, _, _, .nil, _ => .nil
 | _, _, _, .sh h1 h2, hs => .sh (h1.agree fun s hs' => hs s q9) (Yl.agree h2 fun s hs' => hs s q9)
 | _, _, _, .mv h, hs => .mv (Yl.agree h hs)
theorem Zpb.rds {F : Nat -> Prop} {w : World} {ρ : Nat -> Rho} : ∀ {l : List AV} {ds : List D} {vs : List Value} {L0 : List Nat} (k : Nat), Zpb l ds -> SRs F w ρ l vs L0 -> ∃ r, RDs F w ds k r vs []
 | _, _, _, _, k, .nil, hx => by simp only [SRs] at hx; exact ⟨fun _ => undef, by simp only [RDs]; exact ⟨hx.1, trivial⟩⟩
 | _, _, _, _, k, .cons (d := d) (ds := ds) h, hx => by
  simp only [SRs] at hx
  obtain ⟨v, vs', L1, L2, rfl, rfl, h3, h4⟩ := hx
  simp only [SR] at h3
  obtain ⟨_, r1, e1⟩ := h3
  obtain ⟨r2, e2⟩ := Zpb.rds (k + 1) h h4
  refine ⟨fun π => match π with | [] => undef | j :: q => if j = k then r1 q else r2 (j :: q), ?_⟩
  simp only [RDs]
  refine ⟨v, vs', [], [], rfl, rfl, RD.rho d r1 _ v [] e1 (fun π => by simp [Rho.at]), RDs.rho ds (k + 1) r2 _ vs' [] e2 (fun j hj => ?_)⟩
  funext π
  simp [Rho.at, show j ≠ k from by omega]
theorem Wz.rd (h : Xk f X st a w ρ L M) {x : Operand} {rd : List Nat} {v : V} (hv : Wz st x rd v) : VR f.F w v (a.eval x) [] := by
 cases hv with
 | @lit x v hl h1 =>
  rw [Lit.eval h.rep hl]
  exact ⟨fun _ => undef, by simp only [RD]; exact ⟨trivial, h1, trivial⟩⟩
 | @c t d ht =>
  have := h.rep.slots t
  rw [ht] at this
  simp only [SR] at this
  exact this.2
 | @agg t l ds ht hl =>
  have := h.rep.slots t
  rw [ht] at this
  simp only [SR] at this
  obtain ⟨vs, e, hs⟩ := this
  obtain ⟨r, hr⟩ := hl.rds 0 hs
  exact ⟨r, vs, e, hr⟩
theorem He (h : Xk f X st a w ρ L M) : ∀ {xs : List Operand} {args : List Arg} {M1 : List Nat}, Wq f.F w a.eval xs args M1 -> ∀ {rd : List Nat}, Yl st xs args rd -> Xx f.F w args (xs.map a.eval) M1
 | _, _, _, .nil, _, .nil => by simp [Xx]
 | _, _, _, .sh h1, _, .sh h2 h3 => by
  simp only [Xx, List.map_cons]
  exact ⟨_, _, [], _, rfl, rfl, ⟨rfl, h2.rd h⟩, He h h1 h3⟩
 | _, _, _, .mv h1 h2, _, .mv h3 => by
  simp only [Xx, List.map_cons]
  exact ⟨_, _, _, _, rfl, rfl, h1, He h h2 h3⟩
theorem Z2 {d : Nat} {K : FuncId} {xs : Array Operand} {ts : Array TypeId} {args : List Arg} {rs : List V} {rd rd2 : List Nat} {up : List (Nat × AV)} {ty pos aft g} [Zs P K] (hc : Zjf P K args rs []) (hm : Xr st xs.toList args rd up) (hr : Yl (Zn st up) xs.toList args rd2) (hd : n d = true) :
  Zg P n ⟨some d, .call ⟨.value (.func K), xs, ts⟩, ty, pos, aft, g⟩ nid st (rd ++ rd2) (up ++ [(d, Y3 nid rs)]) := by
 intro X st' hs hX f a w hn hrep Kk Q hK
 obtain ⟨ρ, L, h⟩ := hrep
 subst hn
 have hm' := hm.agree (st' := st') fun s hs' => hs s (List.mem_append_left _ hs')
 obtain ⟨L', M1, h1, h2⟩ := h.toM.moves hm'
 rw [Zx] at hK
 rw [List.nil_append] at h1
 have h3 := He h1 h2 (hr.agree (st' := Zn st' up) fun s hs' => Xa _ _ (hs s (List.mem_append_right _ hs')))
 refine V6 (Kr a.eval rfl w) ?_
 have e : xs.map a.eval = (xs.toList.map a.eval).toArray := by apply Array.ext'; rw [Array.toList_map]
 rw [e]
 refine (hc w _ M1 f.F (fun g hg => ⟨h1.rep.F_lt hg, fun hm => (h1.bound g hm).2 hg⟩) h3 h1.nd (fun g hg => (h1.bound g hg).1)).mono ?_
 rintro e w' ⟨us, Lr, Lo, rfl, hk, hv, ho, hnd, hL⟩
 have hLo : Lo = [] := Zmk h2 _ _ ho
 subst hLo
 rw [List.append_nil] at hnd hL
 exact ⟨_, rfl, h1.put_res hK hd hX us w' hk Lr (hv.same (fun g (hg : Res false f.F g) => hg.2) (fun _ _ => rfl) (fun _ _ => rfl)) hnd hL⟩
theorem Q1 {d0 : Nat} {K : FuncId} {x : Operand} {xs : List Operand} {ts : Array TypeId} {args : List Arg} {rs : List Value} {d d' dd : D} {xr id : Nat} {path rd rd1 rd2 : List Nat} {up : List (Nat × AV)} {ty pos aft g} [Zs P K]
  (hc : Xn P K d args (rs.map fun v => .one (.lit v)) d') (hi : Qi st x xr id path dd d rd) (hm : Xr (put st xr (.own id (dd.put path .hole))) xs args rd1 up) (hr : Yl (Zn (put st xr (.own id (dd.put path .hole))) up) xs args rd2)
  (hx : Zn (put st xr (.own id (dd.put path .hole))) up xr = .own id (dd.put path .hole)) (hne : (d0 == xr) = false) (hd : n d0 = true) :
  Zg P n ⟨some d0, .call ⟨.value (.func K), (x :: xs).toArray, ts⟩, ty, pos, aft, g⟩ nid st (rd ++ (rd1 ++ rd2)) ((xr, .own id (dd.put path .hole)) :: (up ++ [(d0, Zby rs), (xr, .own id (dd.put path d'))])) := by
 intro X st' hs hX f a w hn hrep Kk Q hK
 obtain ⟨ρ, L, h⟩ := hrep
 subst hn
 have hne : d0 ≠ xr := by simpa using hne
 have hi' := hi.agree (st' := st') fun s hs' => hs s (List.mem_append_left _ hs')
 have ag : ∀ s, st' s = st s -> put st' xr (.own id (dd.put path .hole)) s = put st xr (.own id (dd.put path .hole)) s := fun s e => by unfold put; split <;> simp_all
 have hm' := hm.agree (st' := put st' xr (.own id (dd.put path .hole))) fun s hs' => ag s (hs s q9)
 have hidX : X id := by
  have := h.ids xr
  rw [hi'.own.1] at this
  exact this id u3
 obtain ⟨L0, M0, h0, hv0⟩ := h.toM.lendN hi'
 obtain ⟨L', M1, h1, h2⟩ := h0.moves hm'
 simp only [Zn] at hK
 rw [Zx] at hK
 rw [List.nil_append] at h1
 have hr' := hr.agree (st' := Zn (put st' xr (.own id (dd.put path .hole))) up) fun s hs' => Xa _ _ (ag s (hs s q9))
 have h3 := He h1 h2 hr'
 have hx' : Zn (put st' xr (.own id (dd.put path .hole))) up xr = .own id (dd.put path .hole) := by
  exact (Xa up xr (by simp [put])).trans hx
 refine V6 (Kr a.eval rfl w) ?_
 have e : (x :: xs).toArray.map a.eval = (a.eval x :: xs.map a.eval).toArray := by simp
 rw [e]
 refine (hc w _ _ M0 M1 f.F ((ρ id).sub path) (fun g hg => ⟨h1.rep.F_lt hg, fun hm => (h1.bound g hm).2 hg⟩) hv0 h3 h1.nd (fun g hg => (h1.bound g hg).1)).mono ?_
 rintro e w' ⟨us, Lr, Lo, rfl, hk, hv, hout, hnd, hL⟩
 obtain ⟨rfl, rfl, hone⟩ := Zbz rs us Lr hv
 rw [List.nil_append] at hnd hL
 refine ⟨_, rfl, ?_⟩
 have hxs := h1.rep.slots xr
 rw [hx'] at hxs
 simp only [SR] at hxs
 have hnav := Zfs path dd d .hole hi.own.2.1
 obtain ⟨v1, A, L1, B, eL, h5, hset⟩ := RD.focus path _ _ _ _ hxs .hole hnav
 simp only [RD] at h5
 obtain ⟨hv1, _, rfl⟩ := h5
 have hev : a.eval x = v1 := by rw [hv1, Rho.sub_nil]; exact hi'.eval h
 rw [hev] at hout
 have hFs : ∀ g, f.F g -> Vh w w' g := fun g hg => hk.block g (h1.rep.F_lt hg) (fun hm => (h1.bound g hm).2 hg)
 have hLx : ∀ t, ∀ g ∈ L' t, Vh w w' g := fun t g hg => hk.block g (h1.rep.bound t g hg).1 (h1.disj t g hg)
 have hfin := hset w' d' ((ρ id).sub path) Lo hFs (fun g hg => hLx xr g (by rw [eL]; rcases hg with hg | hg <;> simp [hg])) (RD.same (fun g (hg : Res false f.F g) => hg.2) (fun _ _ => rfl) d' _ _ Lo hout (fun _ _ => rfl))
 rw [Zft path dd d .hole d' hi.own.2.1, Rho.set_sub] at hfin
 refine hK _ _ ⟨ρ, fun s => if s = xr then A ++ (Lo ++ B) else if s = d0 then [] else L' s, ?_⟩
 have hL0 : ∀ g ∈ Lo, g ∉ L' xr := fun g hg hg' => by
  rcases (hL g hg).2 with h | h
  ·exact h1.disj xr g hg' h
  ·have := (h1.rep.bound xr g hg').1; omega
 have hndx := h1.rep.nodup xr
 rw [eL] at hndx
 have hst : ∀ s, s ≠ xr -> s ≠ d0 -> Zn (Zn (put st' xr (.own id (dd.put path .hole))) up) [(d0, Zby us), (xr, .own id (dd.put path d'))] s = Zn (put st' xr (.own id (dd.put path .hole))) up s := fun s h1 h2 => by
  simp only [Zn]; rw [Zi _ _ _ _ h1, Zi _ _ _ _ h2]
 refine h1.step (fun s => s = xr \/ s = d0) (M0 ++ M1) _ _ _ w' _ _ (X4 _ _ _) (X7 _ _ _) (Yj _ hd) hk (fun g hg => .inr hg) (fun i hi => rfl) (fun s hs' => ?_) (fun s hs' => ?_) (fun s u hs' hu hsu g hg hgu => ?_) (fun _ h => .inl h) (fun s hs' i hi => ?_)
 ·simp only [not_or] at hs'
  exact ⟨hst s hs'.1 hs'.2, Zm _ _ _ _ hs'.2, by simp [hs'.1, hs'.2]⟩
 ·by_cases hsx : s = xr
  ·subst hsx
   rw [if_pos rfl, Zm _ _ _ _ (Ne.symm hne)]
   simp only [Zn, Zo, SR]
   refine ⟨hfin, ?_, fun g hg => ?_⟩
   ·have hd2 : ∀ g ∈ Lo, g ∉ A /\ g ∉ B := fun g hg => by
     have := hL0 g hg
     rw [eL] at this
     simp only [List.mem_append, not_or] at this
     exact ⟨this.1, this.2.2⟩
    simp only [List.nodup_append, List.mem_append] at hndx ⊢
    grind
   ·simp only [List.mem_append] at hg
    rcases hg with hg | hg | hg
    ·have : g ∈ L' s := by rw [eL]; simp [hg]
     exact ⟨Nat.lt_of_lt_of_le (h1.rep.bound s g this).1 hk.size, .inl ⟨s, .inl rfl, this⟩⟩
    ·exact ⟨(hL g hg).1, .inr (hL g hg).2⟩
    ·have : g ∈ L' s := by rw [eL]; simp [hg]
     exact ⟨Nat.lt_of_lt_of_le (h1.rep.bound s g this).1 hk.size, .inl ⟨s, .inl rfl, this⟩⟩
  ·have hs0 : s = d0 := hs'.resolve_left hsx
   subst hs0
   rw [if_neg hsx, if_pos rfl, Z9 _ _ _ (h1.rep.size _ hd)]
   simp only [Zn]
   rw [Zi _ _ _ _ hsx, Zo]
   exact ⟨Zm4 us hone, List.nodup_nil, fun g hg => by simp at hg⟩
 ·by_cases hsx : s = xr
  ·have hu0 : u ≠ xr := fun e => hsu (hsx.trans e.symm)
   have hu' : u = d0 := hu.resolve_left hu0
   rw [if_neg hu0, if_pos hu'] at hgu
   simp at hgu
  ·have hs0 : s = d0 := hs'.resolve_left hsx
   rw [if_neg hsx, if_pos hs0] at hg
   simp at hg
 ·by_cases hsx : s = xr
  ·subst hsx
   simp only [Zn, Zo, AV.ids, List.mem_singleton] at hi
   exact .inl (by rw [hi]; exact hidX)
  ·have hs0 : s = d0 := hs'.resolve_left hsx
   subst hs0
   simp only [Zn] at hi
   rw [Zi _ _ _ _ hsx, Zo, Zjn] at hi
   simp at hi
theorem Hf {d0 : Nat} {K : FuncId} {x : Operand} {xs : List Operand} {ts : Array TypeId} {args : List Arg} {d d' dd : D} {xr id : Nat} {path rd rd1 rd2 : List Nat} {up : List (Nat × AV)} {ty pos aft g} [Zs P K]
  (hc : Xn P K d args [] d') (hi : Qi st x xr id path dd d rd) (hm : Xr (put st xr (.own id (dd.put path .hole))) xs args rd1 up) (hr : Yl (Zn (put st xr (.own id (dd.put path .hole))) up) xs args rd2)
  (hx : Zn (put st xr (.own id (dd.put path .hole))) up xr = .own id (dd.put path .hole)) (hne : (d0 == xr) = false) (hd : n d0 = true) :
  Zg P n ⟨some d0, .call ⟨.value (.func K), (x :: xs).toArray, ts⟩, ty, pos, aft, g⟩ nid st (rd ++ (rd1 ++ rd2)) ((xr, .own id (dd.put path .hole)) :: (up ++ [(d0, .dead), (xr, .own id (dd.put path d'))])) := Q1 (rs := []) hc hi hm hr hx hne hd
theorem sI_ {d0 : Nat} {K : FuncId} {x : Operand} {xs : List Operand} {ts : Array TypeId} {args : List Arg} {v : Value} {d d' dd : D} {xr id : Nat} {path rd rd1 rd2 : List Nat} {up : List (Nat × AV)} {ty pos aft g} [Zs P K]
  (hc : Xn P K d args [.one (.lit v)] d') (hi : Qi st x xr id path dd d rd) (hm : Xr (put st xr (.own id (dd.put path .hole))) xs args rd1 up) (hr : Yl (Zn (put st xr (.own id (dd.put path .hole))) up) xs args rd2)
  (hx : Zn (put st xr (.own id (dd.put path .hole))) up xr = .own id (dd.put path .hole)) (hne : (d0 == xr) = false) (hd : n d0 = true) :
  Zg P n ⟨some d0, .call ⟨.value (.func K), (x :: xs).toArray, ts⟩, ty, pos, aft, g⟩ nid st (rd ++ (rd1 ++ rd2)) ((xr, .own id (dd.put path .hole)) :: (up ++ [(d0, .c (.lit v)), (xr, .own id (dd.put path d'))])) := Q1 (rs := [v]) hc hi hm hr hx hne hd
theorem Zg4 {d0 : Nat} {K : FuncId} {x : Operand} {xs : List Operand} {ts : Array TypeId} {args : List Arg} {v v2 : Value} {d d' dd : D} {xr id : Nat} {path rd rd1 rd2 : List Nat} {up : List (Nat × AV)} {ty pos aft g} [Zs P K]
  (hc : Xn P K d args [.one (.lit v), .one (.lit v2)] d') (hi : Qi st x xr id path dd d rd) (hm : Xr (put st xr (.own id (dd.put path .hole))) xs args rd1 up) (hr : Yl (Zn (put st xr (.own id (dd.put path .hole))) up) xs args rd2)
  (hx : Zn (put st xr (.own id (dd.put path .hole))) up xr = .own id (dd.put path .hole)) (hne : (d0 == xr) = false) (hd : n d0 = true) :
  Zg P n ⟨some d0, .call ⟨.value (.func K), (x :: xs).toArray, ts⟩, ty, pos, aft, g⟩ nid st (rd ++ (rd1 ++ rd2)) ((xr, .own id (dd.put path .hole)) :: (up ++ [(d0, .tup [.c (.lit v), .c (.lit v2)]), (xr, .own id (dd.put path d'))])) := Q1 (rs := [v, v2]) hc hi hm hr hx hne hd
end
end Go.Pv
