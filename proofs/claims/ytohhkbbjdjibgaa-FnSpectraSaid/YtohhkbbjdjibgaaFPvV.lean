/- Rows of truth values; nil; calls whose results share memory that nobody writes. No condition. -/
import Derived.Test.YtohhkbbjdjibgaaFPvW
import Derived.Test.YtohhkbbjdjibgaaFPvO
set_option linter.unusedVariables false
set_option linter.unusedSimpArgs false
namespace Go.Pv
open Go.RowKit
section
variable {P : Program} {n : NN} {nid : Nat} {st : Nat → AV} {f : Fr} {X : Nat → Prop} {a : Act} {w : World} {ρ : Nat → Rho} {L : Nat → List Nat} {M : List Nat}
inductive CapAV (st : Nat → AV) : Operand → List Nat → AV → Prop
 | root {t id cs} : st t = .own id (.pt true cs) → CapAV st (.tmp t) [t] (.ptr t id [] 0)
 | ptr {t x id p o} : st t = .ptr x id p o → CapAV st (.tmp t) [t] (.ptr x id p o)
 | sptr {t cs o} : st t = .sptr cs o → CapAV st (.tmp t) [t] (.sptr cs o)
theorem CapAV.agree {st' : Nat → AV} {x : Operand} {rd : List Nat} {av : AV} (h : CapAV st x rd av) (hs : ∀ s ∈ rd, st' s = st s) : CapAV st' x rd av := by
 cases h with
 | root h => exact .root ((hs _ (by simp)).trans h)
 | ptr h => exact .ptr ((hs _ (by simp)).trans h)
 | sptr h => exact .sptr ((hs _ (by simp)).trans h)
theorem CapAV.sr (h : RepO f X st a w ρ L) {x : Operand} {rd : List Nat} {av : AV} (hx : CapAV st x rd av) : SR f.F w ρ av (a.eval x) [] ∧ (∀ i ∈ av.ids, X i) ∧ ∃ b, a.eval x = .pointer (some b) := by
 cases hx with
 | @root t id cs ht =>
  have h1 := h.slots t
  have hi := h.ids t
  rw [ht] at h1 hi
  simp only [SR, RD] at h1
  obtain ⟨e, g, us, L1, ety, e2, _⟩ := h1
  have ev : a.eval (.tmp t) = .pointer (some ⟨g, 0, none⟩) := e2
  refine ⟨?_, by simpa [AV.ids] using hi, _, ev⟩
  simp only [SR]
  refine ⟨trivial, ⟨g, 0, none⟩, ?_, ?_⟩
  ·rw [← e, e2]; rfl
  ·rw [ev, add_zero']
 | @ptr t x id p o ht =>
  have h1 := h.slots t
  have hi := h.ids t
  rw [ht] at h1 hi
  simp only [SR] at h1
  obtain ⟨_, b, hb, e0⟩ := h1
  exact ⟨by simp only [SR]; exact ⟨trivial, b, hb, e0⟩, by simpa [AV.ids] using hi, _, e0⟩
 | @sptr t cs o ht =>
  have h1 := h.slots t
  rw [ht] at h1
  simp only [SR] at h1
  obtain ⟨_, b, us, r, e0, h2⟩ := h1
  exact ⟨by simp only [SR]; exact ⟨trivial, b, us, r, e0, h2⟩, by simp [AV.ids], _, e0⟩
theorem step_nilCheck {d : Nat} {x : Operand} {rd : List Nat} {av : AV} {ty pos aft g} (hx : CapAV st x rd av) (hd : n d = true) : Step P n ⟨some d, .nilCheck x, ty, pos, aft, g⟩ nid st rd [(d, av)] := by
 intro X st' hs hX f a w hn hrep K Q hK
 obtain ⟨ρ, L, hr⟩ := hrep
 subst hn
 obtain ⟨h1, h2, b, h3⟩ := (hx.agree hs).sr hr
 refine wV_ (u := a.eval x) (w' := w) ?_ (hr.done_light hK hd _ w (Keep.refl w) h1 h2)
 simp only [execOp, h3]
 rfl
inductive CapAVs (st : Nat → AV) : List Operand → List Nat → List AV → Prop
 | nil : CapAVs st [] [] []
 | cons {x xs rd rds av l} : CapAV st x rd av → CapAVs st xs rds l → CapAVs st (x :: xs) (rd ++ rds) (av :: l)
theorem CapAVs.agree : ∀ {st st' : Nat → AV} {xs : List Operand} {rd : List Nat} {l : List AV}, CapAVs st xs rd l → (∀ s ∈ rd, st' s = st s) → CapAVs st' xs rd l
 | _, _, _, _, _, .nil, _ => .nil
 | _, _, _, _, _, .cons h1 h2, hs => .cons (h1.agree fun s hs' => hs s (by simp [hs'])) (CapAVs.agree h2 fun s hs' => hs s (by simp [hs']))
theorem CapAVs.srs (h : RepO f X st a w ρ L) : ∀ {xs : List Operand} {rd : List Nat} {l : List AV}, CapAVs st xs rd l → SRs f.F w ρ l (xs.map a.eval) [] ∧ ∀ i ∈ AV.idss l, X i
 | _, _, _, .nil => by simp [SRs, AV.idss]
 | _, _, _, .cons h1 h2 => by
  obtain ⟨k1, k2, _⟩ := h1.sr h
  obtain ⟨k3, k4⟩ := CapAVs.srs h h2
  simp only [List.map_cons, SRs, AV.idss, List.mem_append]
  exact ⟨⟨_, _, [], [], rfl, rfl, k1, k3⟩, fun i hi => hi.elim (k2 i) (k4 i)⟩
theorem step_makeFunc {d : Nat} {K : FuncId} {xs : Array Operand} {rd : List Nat} {l : List AV} {ty pos aft g} (hx : CapAVs st xs.toList rd l) (hd : n d = true) : Step P n ⟨some d, .makeFunc (.func K) #[] xs, ty, pos, aft, g⟩ nid st rd [(d, .clo K l)] := by
 intro X st' hs hX f a w hn hrep Kk Q hK
 obtain ⟨ρ, L, hr⟩ := hrep
 subst hn
 obtain ⟨h1, h2⟩ := (hx.agree hs).srs hr
 refine wV_ (u := .func (.func K) #[] (xs.map a.eval)) (w' := w) ?_ (hr.done_light hK hd _ w (Keep.refl w) ?_ (by simpa [AV.ids] using h2))
 ·simp [execOp, Instr.makeFunc]
 ·simp only [SR]
  refine ⟨xs.toList.map a.eval, ?_, h1⟩
  congr 1
  apply Array.ext'
  rw [Array.toList_map]
theorem run_call_val {K : FuncId} [hK : FnOk P K] {d : Option Nat} {x : Operand} {xs : Array Operand} {ts : Array TypeId} {ty pos aft g} (ev : Operand → Value) (cb : Array Value) (hev : ev x = .func (.func K) #[] cb) (w : World) :
  (execOp ev ⟨d, .call ⟨.value x, xs, ts⟩, ty, pos, aft, g⟩).run P w = .ok (.enter K (xs.map ev ++ cb)) w := by
 obtain ⟨fn, h1, h2, h3⟩ := hK.out
 have h4 : ¬ fn.body = none := by cases h : fn.body <;> simp [h] at h2 ⊢
 have h3 : ¬ fn.name = "runtime.NumGoroutine" := by simpa using h3
 simp [execOp, resolve, hev, Deferred.ofValue, invoke, callFunc, h1, h3, h4]
theorem outs_none {F : Nat → Prop} {w : World} : ∀ (args : List Arg) (us : List Value) (Lo : List Nat), OutsR F w args us [] Lo → Lo = []
 | [], _, _, h => by simp only [OutsR] at h; exact h.2
 | .io _ :: args, us, Lo, h => by
  simp only [OutsR] at h
  obtain ⟨u, us', d, ds', r, L1, L2, _, h2, _⟩ := h
  cases h2
 | .sh _ :: args, us, Lo, h => by
  simp only [OutsR] at h
  obtain ⟨u, us', _, h⟩ := h
  exact outs_none args us' Lo h
 | .mv _ :: args, us, Lo, h => by
  simp only [OutsR] at h
  obtain ⟨u, us', _, h⟩ := h
  exact outs_none args us' Lo h
theorem argsR_append {F : Nat → Prop} {w : World} : ∀ {a1 a2 : List Arg} {v1 v2 : List Value} {M1 M2 : List Nat}, ArgsR F w a1 v1 M1 → ArgsR F w a2 v2 M2 → ArgsR F w (a1 ++ a2) (v1 ++ v2) (M1 ++ M2)
 | [], a2, v1, v2, M1, M2, h1, h2 => by
  simp only [ArgsR] at h1
  obtain ⟨rfl, rfl⟩ := h1
  simpa using h2
 | x :: a1, a2, v1, v2, M1, M2, h1, h2 => by
  simp only [ArgsR] at h1
  obtain ⟨u, us', L1, L2, rfl, rfl, h3, h4⟩ := h1
  simp only [List.cons_append, ArgsR]
  exact ⟨u, us' ++ v2, L1, L2 ++ M2, rfl, by rw [List.append_assoc], h3, argsR_append h4 h2⟩
theorem caps_args {F F' : Nat → Prop} {w : World} (hF : ∀ g, F g → F' g) : ∀ {cs : List D} {k : Nat} {r : Rho} {us : List Value}, RDs F w cs k r us [] → ArgsR F' w (cs.map fun c => .sh (.one c)) us []
 | [], _, _, _, h => by simp only [RDs] at h; simp [ArgsR, h.1]
 | c :: cs, k, r, us, h => by
  simp only [RDs] at h
  obtain ⟨u, us', L1, L2, rfl, e, h1, h2⟩ := h
  have e1 : L1 = [] := (List.append_eq_nil_iff.1 e.symm).1
  have e2 : L2 = [] := (List.append_eq_nil_iff.1 e.symm).2
  subst e1 e2
  simp only [List.map_cons, ArgsR, ArgR]
  exact ⟨u, us', [], [], rfl, rfl, ⟨rfl, _, RD.same hF (fun _ _ => rfl) c _ u [] h1 (by simp)⟩, caps_args hF h2⟩
theorem step_call_clo {d t : Nat} {K : FuncId} {xs : Array Operand} {ts : Array TypeId} {full : List Arg} {rs : List V} {cs : List D} {rd : List Nat} {ty pos aft g} [FnOk P K] (hc : CallA P K full rs []) (ht : st t = .c (.fn K cs)) (he : full.drop xs.toList.length = cs.map fun c => .sh (.one c))
  (hm : Moves st xs.toList (full.take xs.toList.length) [] []) (hr : Reads st xs.toList (full.take xs.toList.length) rd) (hd : n d = true) :
  Step P n ⟨some d, .call ⟨.value (.tmp t), xs, ts⟩, ty, pos, aft, g⟩ nid st (t :: rd) [(d, resAV nid rs)] := by
 intro X st' hs hX f a w hn hrep Kk Q hK
 obtain ⟨ρ, L, h⟩ := hrep
 subst hn
 have hm' := hm.agree (st' := st') fun s hs' => by simp at hs'
 obtain ⟨L', M1, h1, h2⟩ := h.toM.moves hm'
 rw [List.nil_append] at h1
 have h3 := args_of (rd := []) h1 h2 (hr.agree (st' := st') fun s hs' => hs s (by simp [hs']))
 have h4 := h1.rep.slots t
 rw [show puts st' [] t = st' t from rfl, (hs t (by simp)).trans ht] at h4
 simp only [SR, RD] at h4
 obtain ⟨eL, r, _, us, e0, hus⟩ := h4
 refine wp_of_enter (run_call_val (x := .tmp t) a.eval us.toArray e0 w) ?_
 have e : xs.map a.eval ++ us.toArray = (xs.toList.map a.eval ++ us).toArray := by apply Array.ext'; simp
 rw [e]
 have hall := argsR_append h3 (caps_args (F' := Free w M1) (fun _ hg => h1.free hg) hus)
 rw [← he, List.take_append_drop, List.append_nil] at hall
 refine (hc w _ M1 (Free w M1) (fun _ h => h) hall h1.nd (fun g hg => (h1.bound g hg).1)).mono ?_
 rintro e w' ⟨us', Lr, Lo, rfl, hk, hv, ho, hnd, hL⟩
 have hLo : Lo = [] := outs_none _ _ _ ho
 subst hLo
 rw [List.append_nil] at hnd hL
 exact ⟨_, rfl, h1.put_res hK hd hX us' w' hk Lr (hv.same (fun g hg => by cases hg.1) (fun g hg => by cases hg.1) (fun _ _ => rfl)) hnd hL⟩
end
end Go.Pv
namespace Go.Pv
section
variable {P : Program} {n : NN} {nid : Nat} {st : Nat → AV}
theorem put_hole {A : List (List Int)} {k : Nat} (h : k < A.length) : (D.sl true 1 (LL A)).put [k] .hole = .sl true 1 ((LL A).set k .hole) := by
 simp only [D.put, D.kids, LL, LL_get h, D.withKids]
theorem give_row {t x id k : Nat} {A : List (List Int)} (h : st t = .als x id [k]) (hx : st x = .own id (.sl true 1 (LL A))) (hk : k < A.length) :
  Give st (.tmp t) [t, x] (.sl true 1 (ints (A.getD k []))) [(x, .own id (.sl true 1 ((LL A).set k .hole)))] := by
 have := Give.part (st := st) (t := t) (k := k) (path := []) h hx (nav_LL hk)
 rwa [put_hole hk] at this
end
end Go.Pv
namespace Go.Pv
open Go.RowKit
def CallNG (own : Bool) (P : Program) (K : FuncId) (d : D) (args : List Arg) (rs : List V) (d' : D) : Prop :=
 ∀ (w : World) (v : Value) (vs : List Value) (M0 M1 : List Nat) (F : Nat → Prop) (r : Rho), (∀ g, F g → g < w.heap.size ∧ g ∉ M0 ++ M1) → RD F w d r v M0 → ArgsR F w args vs M1 → (M0 ++ M1).Nodup → (∀ g ∈ M0 ++ M1, g < w.heap.size) →
  Calls P K (v :: vs).toArray w fun e w' => ∃ us Lr Lo, e = .returned (retVal us) ∧ Keep w (M0 ++ M1) w' ∧ VRs (Res own F) w' rs us Lr ∧ RD (Res own F) w' d' r v Lo ∧ (Lr ++ Lo).Nodup ∧
   ∀ g ∈ Lr ++ Lo, g < w'.heap.size ∧ (g ∈ M0 ++ M1 ∨ w.heap.size ≤ g)
def CallNS := CallNG false
section
variable {P : Program} {n : NN} {nid : Nat} {st : Nat → AV} {f : Fr} {X : Nat → Prop} {a : Act} {w : World} {ρ : Nat → Rho} {L : Nat → List Nat} {M : List Nat}
theorem RepM.lendN (h : RepM f X st a w ρ L M) {x : Operand} {xr id : Nat} {path rd : List Nat} {dd d : D} (hi : IoAt st x xr id path dd d rd) :
  ∃ L' M1, RepM f X (put st xr (.own id (dd.put path .hole))) a w ρ L' (M ++ M1) ∧ RD f.F w d ((ρ id).sub path) (a.eval x) M1 := by
 obtain ⟨hx, hn, _⟩ := hi.own
 have hids := h.rep.ids xr
 rw [hx] at hids
 obtain ⟨cs, hk⟩ := hi.kids
 obtain ⟨v1, A, L1, B, eL, h3, hset⟩ := h.rep.part hx hn
 have hv1 : v1 = (ρ id).sub path [] := named hk h3
 have hev : a.eval x = v1 := by rw [hv1, Rho.sub_nil]; exact hi.eval h.rep
 have hfin := hset w .hole ((ρ id).sub path) [] (fun _ _ => rfl) (fun _ _ => rfl) (by simp only [RD]; exact ⟨hv1, h3.one, trivial⟩)
 rw [Rho.set_sub] at hfin
 have hnd := h.rep.nodup xr
 rw [eL] at hnd
 simp only [List.nodup_append, List.mem_append] at hnd
 rw [hev]
 refine ⟨_, L1, h.detach xr (.own id (dd.put path .hole)) (A ++ ([] ++ B)) L1 (by simp only [SR]; exact hfin) (by simpa [AV.ids] using hids) (fun g hg => ?_) ?_ hnd.2.1.1 (fun g hg hg' => ?_), h3⟩
 ·rw [eL]; simp only [List.nil_append, List.mem_append] at hg ⊢; grind
 ·simp only [List.nil_append, List.nodup_append]; grind
 ·simp only [List.nil_append, List.mem_append] at hg; grind
def DoneN (P : Program) (fn : Func) (d : D) (args : List Arg) (rs : List V) (d' : D) (e : Exit) (s : Nat → AV) (_ : Nat) : Prop :=
 (e = .normal ∨ e = .ret) ∧ ∃ s', Ress P s fn.results.toList rs s' ∧ s' 0 = .own 0 d'
theorem DoneN.ret {fn : Func} {d : D} {args : List Arg} {rs rs' : List V} {d' d1 : D} {s s' : Nat → AV} {k : Nat} (hr : Ress P s fn.results.toList rs' s') (ho : s' 0 = .own 0 d1) (h : rs' = rs) (h' : d1 = d') : DoneN P fn d args rs d' .ret s k := by
 subst h h'; exact ⟨.inr rfl, s', hr, ho⟩
theorem DoneN.normal {fn : Func} {d : D} {args : List Arg} {rs rs' : List V} {d' d1 : D} {s s' : Nat → AV} {k : Nat} (hr : Ress P s fn.results.toList rs' s') (ho : s' 0 = .own 0 d1) (h : rs' = rs) (h' : d1 = d') : DoneN P fn d args rs d' .normal s k := by
 subst h h'; exact ⟨.inl rfl, s', hr, ho⟩
theorem callNG_of {own : Bool} {S0 : List (Value × List Int)} (hS0 : (S0 = [] ∧ own = true) ∨ S0 = mark0) {K : FuncId} {fn : Func} {c : Code} {d : D} {args : List Arg} {rs : List V} {d' : D} (m : Nat) (hf : P.funcs[K]? = some fn) (hb : fn.body = some c) (hm : fn.ntmps = m) (hs : own = true → rs.all V.solid = true ∧ d'.solid = true)
  (h : WpA P ⟨fun t => decide (t < m) && !([0].contains t), [], [], S0⟩ c (initSt (.io d :: args)) (args.length + 1) (DoneN P fn d args rs d')) : CallNG own P K d args rs d' := by
 intro w v vs M0 M1 F r hF hv hargs hnd hM
 obtain ⟨Ls', e1', e2', eM', e4'⟩ := hargs.split
 have hargs0 : ArgsR F w (.io d :: args) (v :: vs) (M0 ++ M1) := by
  simp only [ArgsR]; exact ⟨v, vs, M0, M1, rfl, rfl, ⟨r, hv⟩, hargs⟩
 generalize hM2 : M0 ++ M1 = M at *
 have eM : M = (M0 :: Ls').flatten := by rw [← hM2, eM']; simp
 refine calls_of_wp hf hb ?_
 have htmp : ∀ t, tmp { tmps := (v :: vs).toArray ++ Array.replicate (fn.ntmps - (v :: vs).toArray.size) undef, defers := [] } t = (v :: vs).getD t undef := by
  intro t
  generalize v :: vs = vs
  unfold tmp
  simp only [Array.getD_eq_getD_getElem?, List.getD_eq_getElem?_getD, Array.getElem?_append, List.size_toArray, List.getElem?_toArray, Array.getElem?_replicate]
  by_cases ht : t < vs.length
  ·simp [ht]
  ·simp only [ht, if_false]
   rw [List.getElem?_eq_none (by omega)]
   split <;> rfl
 let n : NN := ⟨fun t => decide (t < m) && !([0].contains t), [], [], S0⟩
 have hn0 : ∀ t, n t = true → t < fn.ntmps := fun t ht => by
  rw [hm]; simp only [n, Bool.and_eq_true, decide_eq_true_eq] at ht; exact ht.1
 have hSS : ∀ q ∈ S0, ShRow F w q.1 1 (q.2.map (.int .i64)) := fun q hq => by
  rcases hS0 with h | h
  ·rw [h.1] at hq; exact (List.not_mem_nil hq).elim
  ·rw [h, mark0, List.mem_singleton] at hq
   subst hq
   exact ⟨none, 0, 0, rfl, rfl, Nat.le_refl _, Nat.zero_le _, fun h => absurd rfl h⟩
 let f : Fr := { w0 := w, M := M, N := n, H := [(0, v)], F := F, hF := hF, R := [(0, r)], hK := fun _ h => (List.not_mem_nil h).elim, hR := fun _ h => (List.not_mem_nil h).elim, hS := hSS }
 let Ls := M0 :: Ls'
 have hL : ∀ t, (Ls.getD t []).Nodup ∧ ∀ g ∈ Ls.getD t [], g ∈ M := by
  intro t
  rw [List.getD_eq_getElem?_getD]
  cases ht : Ls[t]? with
  | none => simp
  | some Lt =>
   have hmm := List.mem_of_getElem? ht
   rw [eM] at hnd ⊢
   unfold List.Nodup at hnd
   rw [List.pairwise_flatten] at hnd
   exact ⟨hnd.1 Lt hmm, fun g hg => List.mem_flatten.2 ⟨Lt, hmm, hg⟩⟩
 have hch : ∀ t, ∃ r1 : Rho, (t = 0 → r1 = r) ∧ ∀ ρ : Nat → Rho, ρ t = r1 → SR F w ρ (initSt (.io d :: args) t) ((v :: vs).getD t undef) (Ls.getD t []) := by
  intro t
  cases t with
  | zero => exact ⟨r, fun _ => rfl, fun ρ e => by simp only [initSt, Arg.av, SR, List.getElem?_cons_zero]; rw [e]; exact hv⟩
  | succ t =>
   unfold initSt
   rw [List.getElem?_cons_succ]
   cases ht : args[t]? with
   | none =>
    have hlt : args.length ≤ t := by simpa using ht
    refine ⟨fun _ => undef, by simp, fun ρ _ => ?_⟩
    rw [List.getD_eq_getElem?_getD (l := Ls), List.getElem?_eq_none (by simp only [Ls, List.length_cons]; omega)]
    simp only [SR, Option.getD_none]
   | some x =>
    have hlt : t < args.length := (List.getElem?_eq_some_iff.1 ht).1
    have hu : vs[t]? = some (vs[t]'(by omega)) := List.getElem?_eq_getElem _
    have hl : Ls'[t]? = some (Ls'[t]'(by omega)) := List.getElem?_eq_getElem _
    obtain ⟨r1, hr1⟩ := (e4' t x _ _ ht hu hl).sr (t + 1)
    refine ⟨r1, by simp, fun ρ e => ?_⟩
    have := hr1 ρ e
    rw [List.getD_eq_getElem?_getD, List.getD_eq_getElem?_getD, List.getElem?_cons_succ, hu]
    simp only [Ls, List.getElem?_cons_succ, hl]
    exact this
 obtain ⟨ρ, hρ⟩ := Classical.axiomOfChoice hch
 have hrep : Rep f (fun i => i < args.length + 1) (initSt (.io d :: args)) { tmps := (v :: vs).toArray ++ Array.replicate (fn.ntmps - (v :: vs).toArray.size) undef, defers := [] } w := by
  refine ⟨ρ, fun t => Ls.getD t [], rfl, fun d hd => ?_, fun q hq => ?_, ⟨rfl, rfl, rfl, Nat.le_refl _, fun _ _ _ => rfl, Nat.le_refl _⟩, fun t => ?_, fun t => (hL t).1, fun t u htu g hg hgu => ?_, fun t g hg => ?_, fun t i hi => ?_, fun t g hg => .inl ((hL t).2 g hg), fun q hq => ?_⟩
  ·have := hn0 d hd
   simp
   omega
  ·have : q = (0, v) := by simpa [f] using hq
   subst this
   exact ⟨by simp [f, n], by rw [htmp 0]; rfl⟩
  ·rw [htmp t]; exact (hρ t).2 ρ rfl
  ·have hnd2 := hnd
   unfold List.Nodup at hnd2
   rw [eM, List.pairwise_flatten] at hnd2
   rw [List.getD_eq_getElem?_getD] at hg hgu
   cases ht : Ls[t]? with
   | none => simp [ht] at hg
   | some Lt =>
    cases hu : Ls[u]? with
    | none => simp [hu] at hgu
    | some Lu =>
     simp only [ht, hu, Option.getD_some] at hg hgu
     obtain ⟨h1, h2⟩ := List.getElem?_eq_some_iff.1 ht
     obtain ⟨h3, h4⟩ := List.getElem?_eq_some_iff.1 hu
     rcases Nat.lt_or_ge t u with hlt | hge
     ·have := List.pairwise_iff_getElem.1 hnd2.2 t u h1 h3 hlt
      rw [h2, h4] at this
      exact this g hg g hgu rfl
     ·have := List.pairwise_iff_getElem.1 hnd2.2 u t h3 h1 (by omega)
      rw [h2, h4] at this
      exact this g hgu g hg rfl
  ·have hm := (hL t).2 g hg
   exact ⟨hM g hm, fun hf => (hF g hf).2 hm⟩
  ·unfold initSt at hi
   cases ht : (Arg.io d :: args)[t]? with
   | none => simp [ht, AV.ids] at hi
   | some x =>
    simp only [ht] at hi
    rw [Arg.av_ids x t i hi]
    have := (List.getElem?_eq_some_iff.1 ht).1
    simpa using this
  ·have : q = (0, r) := by simpa [f] using hq
   subst this
   exact ⟨by show 0 < args.length + 1; omega, (hρ 0).1 rfl⟩
 refine Code.wp_mono (fun e a' w' hq => ?_) (h f _ w rfl (.of hrep))
 obtain ⟨s1, nx', ⟨he, s', hres, h0⟩, ⟨f', kf, ρ', L', hr⟩⟩ := hq
 have hmine : ∀ g, (g ∈ f'.M ∨ f'.w0.heap.size ≤ g) → g ∈ M ∨ w.heap.size ≤ g := fun g hg => by
  rcases hg with h1 | h1
  ·exact kf.M g h1
  ·exact .inr (Nat.le_trans kf.keep.size h1)
 have hF' : own = false → f'.F = F := fun ho => by
  rcases hS0 with h | h
  ·rw [h.2] at ho; cases ho
  ·have : f' = f := kf.still (by show S0 ≠ []; rw [h]; simp [mark0])
   rw [this]
 have fin : bodyPost P fn (fun e w' => ∃ us Lr Lo, e = .returned (retVal us) ∧ Keep w M w' ∧ VRs (Res own F) w' rs us Lr ∧ RD (Res own F) w' d' r v Lo ∧ (Lr ++ Lo).Nodup ∧ ∀ g ∈ Lr ++ Lo, g < w'.heap.size ∧ (g ∈ M ∨ w.heap.size ≤ g)) .ret a' w' := by
  obtain ⟨L2, M2, us, hm, hrun, hv2⟩ := hr.toM.ress hres
  rw [List.nil_append] at hm
  have hsl := hm.rep.slots 0
  rw [h0] at hsl
  simp only [SR] at hsl
  have hv0 : tmp a' 0 = v := (hr.hold (0, v) (by rw [kf.H]; simp [f])).2
  have hr0 : ρ' 0 = r := (hr.names (0, r) (by rw [kf.R]; simp [f])).2
  rw [hv0, hr0] at hsl
  refine ⟨hr.defers, retVal us, run_results hrun, us, M2, L2 0, rfl, kf.keep.trans hr.keep (fun g hg hlt => by
   rcases hmine g (.inl hg) with h1 | h1
   ·exact h1
   ·have : f.w0 = w := rfl
    rw [this] at hlt
    omega), ?_, ?_, ?_, ?_⟩
  ·cases hown : own with
   | true => exact hv2.solid (hs hown).1
   | false => exact hv2.same (fun g hg => ⟨rfl, by rw [← hF' hown]; exact hg⟩) (fun _ _ => rfl) (fun _ _ => rfl)
  ·cases hown : own with
   | true => exact RD.solid d' r v _ hsl (hs hown).2
   | false => exact RD.same (fun g hg => ⟨rfl, by rw [← hF' hown]; exact hg⟩) (fun _ _ => rfl) d' r v _ hsl (fun _ _ => rfl)
  ·rw [List.nodup_append]
   exact ⟨hm.nd, hm.rep.nodup 0, fun g hg g' hg' e => by subst e; exact hm.disj 0 g hg' hg⟩
  ·intro g hg
   rw [List.mem_append] at hg
   rcases hg with hg | hg
   ·exact ⟨(hm.bound g hg).1, hmine g (hm.mine g hg)⟩
   ·exact ⟨(hm.rep.bound 0 g hg).1, hmine g (hm.rep.mine 0 g hg)⟩
 rcases he with rfl | rfl
 ·exact fin
 ·exact fin
theorem cN_ {K : FuncId} {fn : Func} {c : Code} {d : D} {args : List Arg} {rs : List V} {d' : D} (m : Nat) (hf : P.funcs[K]? = some fn) (hb : fn.body = some c) (hm : fn.ntmps = m)
  (h : WpA P ⟨fun t => decide (t < m) && !([0].contains t), [], [], mark0⟩ c (initSt (.io d :: args)) (args.length + 1) (DoneN P fn d args rs d')) : CallNS P K d args rs d' :=
 callNG_of (.inr rfl) m hf hb hm (fun h => by cases h) h
end
end Go.Pv
namespace Go.Pv
open Go.RowKit
abbrev bools (l : List Bool) : List D := l.map fun b => D.lit (.bool b)
theorem bools_get {l : List Bool} {i : Nat} (h : i < l.length) : (l.map fun b => D.lit (.bool b))[i]? = some (.lit (.bool (l.getD i false))) := map_get false h
theorem solids_bools (l : List Bool) : D.solids (bools l) = true := by
 unfold bools
 induction l with
 | nil => rfl
 | cons a l ih => simp only [List.map_cons, D.solids, D.solid, ih, Bool.and_self]
section
variable {P : Program} {n : NN} {nid : Nat} {st : Nat → AV} {f : Fr} {X : Nat → Prop} {a : Act} {w : World} {ρ : Nat → Rho} {L : Nat → List Nat} {M : List Nat}
inductive AllC : List AV → List D → Prop
 | nil : AllC [] []
 | cons {d l ds} : AllC l ds → AllC (.c d :: l) (d :: ds)
inductive ShowsF (st : Nat → AV) : Operand → List Nat → V → Prop
 | lit {x v} : Lit st x v → v.oneCell' = true → ShowsF st x (rdOf x) (.one (.lit v))
 | c {t d} : st t = .c d → ShowsF st (.tmp t) [t] (.one d)
 | agg {t l ds} : st t = .agg l → AllC l ds → ShowsF st (.tmp t) [t] (.agg ds)
inductive ReadsF (st : Nat → AV) : List Operand → List Arg → List Nat → Prop
 | nil : ReadsF st [] [] []
 | sh {x xs v args rd rds} : ShowsF st x rd v → ReadsF st xs args rds → ReadsF st (x :: xs) (.sh v :: args) (rd ++ rds)
 | mv {x xs v args rds} : ReadsF st xs args rds → ReadsF st (x :: xs) (.mv v :: args) rds
theorem ShowsF.agree {st st' : Nat → AV} {x : Operand} {rd : List Nat} {v : V} (h : ShowsF st x rd v) (hs : ∀ s ∈ rd, st' s = st s) : ShowsF st' x rd v := by
 cases h with
 | lit h h1 => exact .lit (h.agree hs) h1
 | c h => exact .c ((hs _ (by simp)).trans h)
 | agg h h1 => exact .agg ((hs _ (by simp)).trans h) h1
theorem ReadsF.agree {st st' : Nat → AV} : ∀ {xs : List Operand} {args : List Arg} {rd : List Nat}, ReadsF st xs args rd → (∀ s ∈ rd, st' s = st s) → ReadsF st' xs args rd
 | _, _, _, .nil, _ => .nil
 | _, _, _, .sh h1 h2, hs => .sh (h1.agree fun s hs' => hs s (by simp [hs'])) (ReadsF.agree h2 fun s hs' => hs s (by simp [hs']))
 | _, _, _, .mv h, hs => .mv (ReadsF.agree h hs)
theorem AllC.rds {F : Nat → Prop} {w : World} {ρ : Nat → Rho} : ∀ {l : List AV} {ds : List D} {vs : List Value} {L0 : List Nat} (k : Nat), AllC l ds → SRs F w ρ l vs L0 → ∃ r, RDs F w ds k r vs []
 | _, _, _, _, k, .nil, hx => by simp only [SRs] at hx; exact ⟨fun _ => undef, by simp only [RDs]; exact ⟨hx.1, trivial⟩⟩
 | _, _, _, _, k, .cons (d := d) (ds := ds) h, hx => by
  simp only [SRs] at hx
  obtain ⟨v, vs', L1, L2, rfl, rfl, h3, h4⟩ := hx
  simp only [SR] at h3
  obtain ⟨_, r1, e1⟩ := h3
  obtain ⟨r2, e2⟩ := AllC.rds (k + 1) h h4
  refine ⟨fun π => match π with | [] => undef | j :: q => if j = k then r1 q else r2 (j :: q), ?_⟩
  simp only [RDs]
  refine ⟨v, vs', [], [], rfl, rfl, RD.rho d r1 _ v [] e1 (fun π => by simp [Rho.at]), RDs.rho ds (k + 1) r2 _ vs' [] e2 (fun j hj => ?_)⟩
  funext π
  simp [Rho.at, show j ≠ k from by omega]
theorem ShowsF.rd (h : RepM f X st a w ρ L M) {x : Operand} {rd : List Nat} {v : V} (hv : ShowsF st x rd v) : VR f.F w v (a.eval x) [] := by
 cases hv with
 | @lit x v hl h1 =>
  rw [Lit.eval h.rep hl]
  exact ⟨fun _ => undef, by simp only [RD]; exact ⟨trivial, h1, trivial⟩⟩
 | @c t d ht =>
  have := h.rep.slots t
  rw [ht] at this
  simp only [SR] at this
  exact this.2
 | @agg t l ds ht hl =>
  have := h.rep.slots t
  rw [ht] at this
  simp only [SR] at this
  obtain ⟨vs, e, hs⟩ := this
  obtain ⟨r, hr⟩ := hl.rds 0 hs
  exact ⟨r, vs, e, hr⟩
theorem args_ofF (h : RepM f X st a w ρ L M) : ∀ {xs : List Operand} {args : List Arg} {M1 : List Nat}, MovedR f.F w a.eval xs args M1 → ∀ {rd : List Nat}, ReadsF st xs args rd → ArgsR f.F w args (xs.map a.eval) M1
 | _, _, _, .nil, _, .nil => by simp [ArgsR]
 | _, _, _, .sh h1, _, .sh h2 h3 => by
  simp only [ArgsR, List.map_cons]
  exact ⟨_, _, [], _, rfl, rfl, ⟨rfl, h2.rd h⟩, args_ofF h h1 h3⟩
 | _, _, _, .mv h1 h2, _, .mv h3 => by
  simp only [ArgsR, List.map_cons]
  exact ⟨_, _, _, _, rfl, rfl, h1, args_ofF h h2 h3⟩
theorem step_callS {d : Nat} {K : FuncId} {xs : Array Operand} {ts : Array TypeId} {args : List Arg} {rs : List V} {rd rd2 : List Nat} {up : List (Nat × AV)} {ty pos aft g} [FnOk P K] (hc : CallS P K args rs []) (hm : Moves st xs.toList args rd up) (hr : ReadsF (puts st up) xs.toList args rd2) (hd : n d = true) :
  Step P n ⟨some d, .call ⟨.value (.func K), xs, ts⟩, ty, pos, aft, g⟩ nid st (rd ++ rd2) (up ++ [(d, resAV nid rs)]) := by
 intro X st' hs hX f a w hn hrep Kk Q hK
 obtain ⟨ρ, L, h⟩ := hrep
 subst hn
 have hm' := hm.agree (st' := st') fun s hs' => hs s (List.mem_append_left _ hs')
 obtain ⟨L', M1, h1, h2⟩ := h.toM.moves hm'
 rw [puts_append] at hK
 rw [List.nil_append] at h1
 have h3 := args_ofF h1 h2 (hr.agree (st' := puts st' up) fun s hs' => puts_agree _ _ (hs s (List.mem_append_right _ hs')))
 refine wp_of_enter (run_call a.eval rfl w) ?_
 have e : xs.map a.eval = (xs.toList.map a.eval).toArray := by apply Array.ext'; rw [Array.toList_map]
 rw [e]
 refine (hc w _ M1 f.F (fun g hg => ⟨h1.rep.F_lt hg, fun hm => (h1.bound g hm).2 hg⟩) h3 h1.nd (fun g hg => (h1.bound g hg).1)).mono ?_
 rintro e w' ⟨us, Lr, Lo, rfl, hk, hv, ho, hnd, hL⟩
 have hLo : Lo = [] := outs_nil h2 _ _ ho
 subst hLo
 rw [List.append_nil] at hnd hL
 exact ⟨_, rfl, h1.put_res hK hd hX us w' hk Lr (hv.same (fun g (hg : Res false f.F g) => hg.2) (fun _ _ => rfl) (fun _ _ => rfl)) hnd hL⟩
theorem step_call_ioS {d0 : Nat} {K : FuncId} {x : Operand} {xs : List Operand} {ts : Array TypeId} {args : List Arg} {rs : List Value} {d d' dd : D} {xr id : Nat} {path rd rd1 rd2 : List Nat} {up : List (Nat × AV)} {ty pos aft g} [FnOk P K]
  (hc : CallNS P K d args (rs.map fun v => .one (.lit v)) d') (hi : IoAt st x xr id path dd d rd) (hm : Moves (put st xr (.own id (dd.put path .hole))) xs args rd1 up) (hr : ReadsF (puts (put st xr (.own id (dd.put path .hole))) up) xs args rd2)
  (hx : puts (put st xr (.own id (dd.put path .hole))) up xr = .own id (dd.put path .hole)) (hne : (d0 == xr) = false) (hd : n d0 = true) :
  Step P n ⟨some d0, .call ⟨.value (.func K), (x :: xs).toArray, ts⟩, ty, pos, aft, g⟩ nid st (rd ++ (rd1 ++ rd2)) ((xr, .own id (dd.put path .hole)) :: (up ++ [(d0, litAV rs), (xr, .own id (dd.put path d'))])) := by
 intro X st' hs hX f a w hn hrep Kk Q hK
 obtain ⟨ρ, L, h⟩ := hrep
 subst hn
 have hne : d0 ≠ xr := by simpa using hne
 have hi' := hi.agree (st' := st') fun s hs' => hs s (List.mem_append_left _ hs')
 have ag : ∀ s, st' s = st s → put st' xr (.own id (dd.put path .hole)) s = put st xr (.own id (dd.put path .hole)) s := fun s e => by unfold put; split <;> simp_all
 have hm' := hm.agree (st' := put st' xr (.own id (dd.put path .hole))) fun s hs' => ag s (hs s (by simp [hs']))
 have hidX : X id := by
  have := h.ids xr
  rw [hi'.own.1] at this
  exact this id (by simp [AV.ids])
 obtain ⟨L0, M0, h0, hv0⟩ := h.toM.lendN hi'
 obtain ⟨L', M1, h1, h2⟩ := h0.moves hm'
 simp only [puts] at hK
 rw [puts_append] at hK
 rw [List.nil_append] at h1
 have hr' := hr.agree (st' := puts (put st' xr (.own id (dd.put path .hole))) up) fun s hs' => puts_agree _ _ (ag s (hs s (by simp [hs'])))
 have h3 := args_ofF h1 h2 hr'
 have hx' : puts (put st' xr (.own id (dd.put path .hole))) up xr = .own id (dd.put path .hole) := by
  exact (puts_agree up xr (by simp [put])).trans hx
 refine wp_of_enter (run_call a.eval rfl w) ?_
 have e : (x :: xs).toArray.map a.eval = (a.eval x :: xs.map a.eval).toArray := by simp
 rw [e]
 refine (hc w _ _ M0 M1 f.F ((ρ id).sub path) (fun g hg => ⟨h1.rep.F_lt hg, fun hm => (h1.bound g hm).2 hg⟩) hv0 h3 h1.nd (fun g hg => (h1.bound g hg).1)).mono ?_
 rintro e w' ⟨us, Lr, Lo, rfl, hk, hv, hout, hnd, hL⟩
 obtain ⟨rfl, rfl, hone⟩ := lits_res rs us Lr hv
 rw [List.nil_append] at hnd hL
 refine ⟨_, rfl, ?_⟩
 have hxs := h1.rep.slots xr
 rw [hx'] at hxs
 simp only [SR] at hxs
 have hnav := nav_put path dd d .hole hi.own.2.1
 obtain ⟨v1, A, L1, B, eL, h5, hset⟩ := RD.focus path _ _ _ _ hxs .hole hnav
 simp only [RD] at h5
 obtain ⟨hv1, _, rfl⟩ := h5
 have hev : a.eval x = v1 := by rw [hv1, Rho.sub_nil]; exact hi'.eval h
 rw [hev] at hout
 have hFs : ∀ g, f.F g → Same w w' g := fun g hg => hk.block g (h1.rep.F_lt hg) (fun hm => (h1.bound g hm).2 hg)
 have hLx : ∀ t, ∀ g ∈ L' t, Same w w' g := fun t g hg => hk.block g (h1.rep.bound t g hg).1 (h1.disj t g hg)
 have hfin := hset w' d' ((ρ id).sub path) Lo hFs (fun g hg => hLx xr g (by rw [eL]; rcases hg with hg | hg <;> simp [hg])) (RD.same (fun g (hg : Res false f.F g) => hg.2) (fun _ _ => rfl) d' _ _ Lo hout (fun _ _ => rfl))
 rw [put_put path dd d .hole d' hi.own.2.1, Rho.set_sub] at hfin
 refine hK _ _ ⟨ρ, fun s => if s = xr then A ++ (Lo ++ B) else if s = d0 then [] else L' s, ?_⟩
 have hL0 : ∀ g ∈ Lo, g ∉ L' xr := fun g hg hg' => by
  rcases (hL g hg).2 with h | h
  ·exact h1.disj xr g hg' h
  ·have := (h1.rep.bound xr g hg').1; omega
 have hndx := h1.rep.nodup xr
 rw [eL] at hndx
 have hst : ∀ s, s ≠ xr → s ≠ d0 → puts (puts (put st' xr (.own id (dd.put path .hole))) up) [(d0, litAV us), (xr, .own id (dd.put path d'))] s = puts (put st' xr (.own id (dd.put path .hole))) up s := fun s h1 h2 => by
  simp only [puts]; rw [put_other _ _ _ _ h1, put_other _ _ _ _ h2]
 refine h1.step (fun s => s = xr ∨ s = d0) (M0 ++ M1) _ _ _ w' _ _ (put_defers _ _ _) (put_size _ _ _) (hold_put _ hd) hk (fun g hg => .inr hg) (fun i hi => rfl) (fun s hs' => ?_) (fun s hs' => ?_) (fun s u hs' hu hsu g hg hgu => ?_) (fun _ h => .inl h) (fun s hs' i hi => ?_)
 ·simp only [not_or] at hs'
  exact ⟨hst s hs'.1 hs'.2, tmp_put_other _ _ _ _ hs'.2, by simp [hs'.1, hs'.2]⟩
 ·by_cases hsx : s = xr
  ·subst hsx
   rw [if_pos rfl, tmp_put_other _ _ _ _ (Ne.symm hne)]
   simp only [puts, put_same, SR]
   refine ⟨hfin, ?_, fun g hg => ?_⟩
   ·have hd2 : ∀ g ∈ Lo, g ∉ A ∧ g ∉ B := fun g hg => by
     have := hL0 g hg
     rw [eL] at this
     simp only [List.mem_append, not_or] at this
     exact ⟨this.1, this.2.2⟩
    simp only [List.nodup_append, List.mem_append] at hndx ⊢
    grind
   ·simp only [List.mem_append] at hg
    rcases hg with hg | hg | hg
    ·have : g ∈ L' s := by rw [eL]; simp [hg]
     exact ⟨Nat.lt_of_lt_of_le (h1.rep.bound s g this).1 hk.size, .inl ⟨s, .inl rfl, this⟩⟩
    ·exact ⟨(hL g hg).1, .inr (hL g hg).2⟩
    ·have : g ∈ L' s := by rw [eL]; simp [hg]
     exact ⟨Nat.lt_of_lt_of_le (h1.rep.bound s g this).1 hk.size, .inl ⟨s, .inl rfl, this⟩⟩
  ·have hs0 : s = d0 := hs'.resolve_left hsx
   subst hs0
   rw [if_neg hsx, if_pos rfl, tmp_put_same _ _ _ (h1.rep.size _ hd)]
   simp only [puts]
   rw [put_other _ _ _ _ hsx, put_same]
   exact ⟨SR_litAV us hone, List.nodup_nil, fun g hg => by simp at hg⟩
 ·by_cases hsx : s = xr
  ·have hu0 : u ≠ xr := fun e => hsu (hsx.trans e.symm)
   have hu' : u = d0 := hu.resolve_left hu0
   rw [if_neg hu0, if_pos hu'] at hgu
   simp at hgu
  ·have hs0 : s = d0 := hs'.resolve_left hsx
   rw [if_neg hsx, if_pos hs0] at hg
   simp at hg
 ·by_cases hsx : s = xr
  ·subst hsx
   simp only [puts, put_same, AV.ids, List.mem_singleton] at hi
   exact .inl (by rw [hi]; exact hidX)
  ·have hs0 : s = d0 := hs'.resolve_left hsx
   subst hs0
   simp only [puts] at hi
   rw [put_other _ _ _ _ hsx, put_same, litAV_ids] at hi
   simp at hi
theorem sI_ {d0 : Nat} {K : FuncId} {x : Operand} {xs : List Operand} {ts : Array TypeId} {args : List Arg} {v : Value} {d d' dd : D} {xr id : Nat} {path rd rd1 rd2 : List Nat} {up : List (Nat × AV)} {ty pos aft g} [FnOk P K]
  (hc : CallNS P K d args [.one (.lit v)] d') (hi : IoAt st x xr id path dd d rd) (hm : Moves (put st xr (.own id (dd.put path .hole))) xs args rd1 up) (hr : ReadsF (puts (put st xr (.own id (dd.put path .hole))) up) xs args rd2)
  (hx : puts (put st xr (.own id (dd.put path .hole))) up xr = .own id (dd.put path .hole)) (hne : (d0 == xr) = false) (hd : n d0 = true) :
  Step P n ⟨some d0, .call ⟨.value (.func K), (x :: xs).toArray, ts⟩, ty, pos, aft, g⟩ nid st (rd ++ (rd1 ++ rd2)) ((xr, .own id (dd.put path .hole)) :: (up ++ [(d0, .c (.lit v)), (xr, .own id (dd.put path d'))])) := step_call_ioS (rs := [v]) hc hi hm hr hx hne hd
end
end Go.Pv
