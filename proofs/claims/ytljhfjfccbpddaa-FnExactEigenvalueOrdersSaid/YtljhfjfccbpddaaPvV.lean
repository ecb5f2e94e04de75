/- Function values that capture variables, and calls of them; checks of pointers. No condition. -/
import Derived.Test.YtljhfjfccbpddaaPvT
namespace Go.Pv
set_option linter.unusedVariables false
set_option linter.unusedSimpArgs false
open Go.RowKit
section
variable {P : Program} {n : NN} {nid : Nat} {st : Nat → AV} {f : Fr} {X : Nat → Prop} {a : Act} {w : World} {ρ : Nat → Rho} {L : Nat → List Nat} {M : List Nat}

/-- How an operand that is a pointer is held elsewhere. -/
inductive CapAV (st : Nat → AV) : Operand → List Nat → AV → Prop
  | root {t id cs} : st t = .own id (.pt true cs) → CapAV st (.tmp t) [t] (.ptr t id [] 0)
  | ptr {t x id p o} : st t = .ptr x id p o → CapAV st (.tmp t) [t] (.ptr x id p o)
  | sptr {t cs o} : st t = .sptr cs o → CapAV st (.tmp t) [t] (.sptr cs o)
theorem CapAV.agree {st' : Nat → AV} {x : Operand} {rd : List Nat} {av : AV} (h : CapAV st x rd av) (hs : ∀ s ∈ rd, st' s = st s) : CapAV st' x rd av := by
  cases h with
  | root h => exact .root ((hs _ (by simp)).trans h)
  | ptr h => exact .ptr ((hs _ (by simp)).trans h)
  | sptr h => exact .sptr ((hs _ (by simp)).trans h)
theorem CapAV.sr (h : RepO f X st a w ρ L) {x : Operand} {rd : List Nat} {av : AV} (hx : CapAV st x rd av) : SR f.F w ρ av (a.eval x) [] ∧ (∀ i ∈ av.ids, X i) ∧ ∃ b, a.eval x = .pointer (some b) := by
  cases hx with
  | @root t id cs ht =>
    have h1 := h.slots t
    have hi := h.ids t
    rw [ht] at h1 hi
    simp only [SR, RD] at h1
    obtain ⟨e, g, us, L1, ety, e2, _⟩ := h1
    have ev : a.eval (.tmp t) = .pointer (some ⟨g, 0, none⟩) := e2
    refine ⟨?_, by simpa [AV.ids] using hi, _, ev⟩
    simp only [SR]
    refine ⟨trivial, ⟨g, 0, none⟩, ?_, ?_⟩
    · rw [← e, e2]; rfl
    · rw [ev, add_zero']
  | @ptr t x id p o ht =>
    have h1 := h.slots t
    have hi := h.ids t
    rw [ht] at h1 hi
    simp only [SR] at h1
    obtain ⟨_, b, hb, e0⟩ := h1
    exact ⟨by simp only [SR]; exact ⟨trivial, b, hb, e0⟩, by simpa [AV.ids] using hi, _, e0⟩
  | @sptr t cs o ht =>
    have h1 := h.slots t
    rw [ht] at h1
    simp only [SR] at h1
    obtain ⟨_, b, us, r, e0, h2⟩ := h1
    exact ⟨by simp only [SR]; exact ⟨trivial, b, us, r, e0, h2⟩, by simp [AV.ids], _, e0⟩
theorem step_nilCheck {d : Nat} {x : Operand} {rd : List Nat} {av : AV} {ty pos aft g} (hx : CapAV st x rd av) (hd : n d = true) : Step P n ⟨some d, .nilCheck x, ty, pos, aft, g⟩ nid st rd [(d, av)] := by
  intro X st' hs hX f a w hn hrep K Q hK
  obtain ⟨ρ, L, hr⟩ := hrep
  subst hn
  obtain ⟨h1, h2, b, h3⟩ := (hx.agree hs).sr hr
  refine wp_of_value (u := a.eval x) (w' := w) ?_ (hr.done_light hK hd _ w (Keep.refl w) h1 h2)
  simp only [execOp, h3]
  rfl

inductive CapAVs (st : Nat → AV) : List Operand → List Nat → List AV → Prop
  | nil : CapAVs st [] [] []
  | cons {x xs rd rds av l} : CapAV st x rd av → CapAVs st xs rds l → CapAVs st (x :: xs) (rd ++ rds) (av :: l)
theorem CapAVs.agree : ∀ {st st' : Nat → AV} {xs : List Operand} {rd : List Nat} {l : List AV}, CapAVs st xs rd l → (∀ s ∈ rd, st' s = st s) → CapAVs st' xs rd l
  | _, _, _, _, _, .nil, _ => .nil
  | _, _, _, _, _, .cons h1 h2, hs => .cons (h1.agree fun s hs' => hs s (by simp [hs'])) (CapAVs.agree h2 fun s hs' => hs s (by simp [hs']))
theorem CapAVs.srs (h : RepO f X st a w ρ L) : ∀ {xs : List Operand} {rd : List Nat} {l : List AV}, CapAVs st xs rd l → SRs f.F w ρ l (xs.map a.eval) [] ∧ ∀ i ∈ AV.idss l, X i
  | _, _, _, .nil => by simp [SRs, AV.idss]
  | _, _, _, .cons h1 h2 => by
    obtain ⟨k1, k2, _⟩ := h1.sr h
    obtain ⟨k3, k4⟩ := CapAVs.srs h h2
    simp only [List.map_cons, SRs, AV.idss, List.mem_append]
    exact ⟨⟨_, _, [], [], rfl, rfl, k1, k3⟩, fun i hi => hi.elim (k2 i) (k4 i)⟩
/-- A function value that captures variables is made. -/
theorem step_makeFunc {d : Nat} {K : FuncId} {xs : Array Operand} {rd : List Nat} {l : List AV} {ty pos aft g} (hx : CapAVs st xs.toList rd l) (hd : n d = true) : Step P n ⟨some d, .makeFunc (.func K) #[] xs, ty, pos, aft, g⟩ nid st rd [(d, .clo K l)] := by
  intro X st' hs hX f a w hn hrep Kk Q hK
  obtain ⟨ρ, L, hr⟩ := hrep
  subst hn
  obtain ⟨h1, h2⟩ := (hx.agree hs).srs hr
  refine wp_of_value (u := .func (.func K) #[] (xs.map a.eval)) (w' := w) ?_ (hr.done_light hK hd _ w (Keep.refl w) ?_ (by simpa [AV.ids] using h2))
  · simp [execOp, Instr.makeFunc]
  · simp only [SR]
    refine ⟨xs.toList.map a.eval, ?_, h1⟩
    congr 1
    apply Array.ext'
    rw [Array.toList_map]

/-! ### The call -/
theorem run_call_val {K : FuncId} [hK : FnOk P K] {d : Option Nat} {x : Operand} {xs : Array Operand} {ts : Array TypeId} {ty pos aft g} (ev : Operand → Value) (cb : Array Value) (hev : ev x = .func (.func K) #[] cb) (w : World) :
    (execOp ev ⟨d, .call ⟨.value x, xs, ts⟩, ty, pos, aft, g⟩).run P w = .ok (.enter K (xs.map ev ++ cb)) w := by
  obtain ⟨fn, h1, h2, h3⟩ := hK.out
  have h4 : ¬ fn.body = none := by cases h : fn.body <;> simp [h] at h2 ⊢
  have h3 : ¬ fn.name = "runtime.NumGoroutine" := by simpa using h3
  simp [execOp, resolve, hev, Deferred.ofValue, invoke, callFunc, h1, h3, h4]
theorem outs_none {F : Nat → Prop} {w : World} : ∀ (args : List Arg) (us : List Value) (Lo : List Nat), OutsR F w args us [] Lo → Lo = []
  | [], _, _, h => by simp only [OutsR] at h; exact h.2
  | .io _ :: args, us, Lo, h => by
    simp only [OutsR] at h
    obtain ⟨u, us', d, ds', r, L1, L2, _, h2, _⟩ := h
    cases h2
  | .sh _ :: args, us, Lo, h => by
    simp only [OutsR] at h
    obtain ⟨u, us', _, h⟩ := h
    exact outs_none args us' Lo h
  | .mv _ :: args, us, Lo, h => by
    simp only [OutsR] at h
    obtain ⟨u, us', _, h⟩ := h
    exact outs_none args us' Lo h
theorem argsR_append {F : Nat → Prop} {w : World} : ∀ {a1 a2 : List Arg} {v1 v2 : List Value} {M1 M2 : List Nat}, ArgsR F w a1 v1 M1 → ArgsR F w a2 v2 M2 → ArgsR F w (a1 ++ a2) (v1 ++ v2) (M1 ++ M2)
  | [], a2, v1, v2, M1, M2, h1, h2 => by
    simp only [ArgsR] at h1
    obtain ⟨rfl, rfl⟩ := h1
    simpa using h2
  | x :: a1, a2, v1, v2, M1, M2, h1, h2 => by
    simp only [ArgsR] at h1
    obtain ⟨u, us', L1, L2, rfl, rfl, h3, h4⟩ := h1
    simp only [List.cons_append, ArgsR]
    exact ⟨u, us' ++ v2, L1, L2 ++ M2, rfl, by rw [List.append_assoc], h3, argsR_append h4 h2⟩
theorem caps_args {F F' : Nat → Prop} {w : World} (hF : ∀ g, F g → F' g) : ∀ {cs : List D} {k : Nat} {r : Rho} {us : List Value}, RDs F w cs k r us [] → ArgsR F' w (cs.map fun c => .sh (.one c)) us []
  | [], _, _, _, h => by simp only [RDs] at h; simp [ArgsR, h.1]
  | c :: cs, k, r, us, h => by
    simp only [RDs] at h
    obtain ⟨u, us', L1, L2, rfl, e, h1, h2⟩ := h
    have e1 : L1 = [] := (List.append_eq_nil_iff.1 e.symm).1
    have e2 : L2 = [] := (List.append_eq_nil_iff.1 e.symm).2
    subst e1 e2
    simp only [List.map_cons, ArgsR, ArgR]
    exact ⟨u, us', [], [], rfl, rfl, ⟨rfl, _, RD.same hF (fun _ _ => rfl) c _ u [] h1 (by simp)⟩, caps_args hF h2⟩
/-- A call of a function value, all of whose arguments are read. -/
theorem step_call_clo {d t : Nat} {K : FuncId} {xs : Array Operand} {ts : Array TypeId} {full : List Arg} {rs : List V} {cs : List D} {rd : List Nat} {ty pos aft g} [FnOk P K] (hc : CallA P K full rs []) (ht : st t = .c (.fn K cs)) (he : full.drop xs.toList.length = cs.map fun c => .sh (.one c))
    (hm : Moves st xs.toList (full.take xs.toList.length) [] []) (hr : Reads st xs.toList (full.take xs.toList.length) rd) (hd : n d = true) :
    Step P n ⟨some d, .call ⟨.value (.tmp t), xs, ts⟩, ty, pos, aft, g⟩ nid st (t :: rd) [(d, resAV nid rs)] := by
  intro X st' hs hX f a w hn hrep Kk Q hK
  obtain ⟨ρ, L, h⟩ := hrep
  subst hn
  have hm' := hm.agree (st' := st') fun s hs' => by simp at hs'
  obtain ⟨L', M1, h1, h2⟩ := h.toM.moves hm'
  rw [List.nil_append] at h1
  have h3 := args_of (rd := []) h1 h2 (hr.agree (st' := st') fun s hs' => hs s (by simp [hs']))
  have h4 := h1.rep.slots t
  rw [show puts st' [] t = st' t from rfl, (hs t (by simp)).trans ht] at h4
  simp only [SR, RD] at h4
  obtain ⟨eL, r, _, us, e0, hus⟩ := h4
  refine wp_of_enter (run_call_val (x := .tmp t) a.eval us.toArray e0 w) ?_
  have e : xs.map a.eval ++ us.toArray = (xs.toList.map a.eval ++ us).toArray := by apply Array.ext'; simp
  rw [e]
  have hall := argsR_append h3 (caps_args (F' := Free w M1) (fun _ hg => h1.free hg) hus)
  rw [← he, List.take_append_drop, List.append_nil] at hall
  refine (hc w _ M1 (Free w M1) (fun _ h => h) hall h1.nd (fun g hg => (h1.bound g hg).1)).mono ?_
  rintro e w' ⟨us', Lr, Lo, rfl, hk, hv, ho, hnd, hL⟩
  have hLo : Lo = [] := outs_none _ _ _ ho
  subst hLo
  rw [List.append_nil] at hnd hL
  exact ⟨_, rfl, h1.put_res hK hd hX us' w' hk Lr (hv.same (fun g hg => by cases hg.1) (fun g hg => by cases hg.1) (fun _ _ => rfl)) hnd hL⟩
end
end Go.Pv
