/- Contracts of functions over data, and the step that a call is. No condition. -/
import Derived.Test.YtpeioofkihpldaaDoorNPvG
set_option linter.unusedVariables false
set_option linter.unusedSimpArgs false
namespace Go.Pv
open Go.RowKit
inductive V where
 | one (d : D)
 | agg (ds : List D)
def VR (F : Nat → Prop) (w : World) : V → Value → List Nat → Prop
 | .one d, v, L => ∃ r, RD F w d r v L
 | .agg ds, v, L => ∃ r us, v = .agg us.toArray ∧ RDs F w ds 0 r us L
def VRs (F : Nat → Prop) (w : World) : List V → List Value → List Nat → Prop
 | [], us, L => us = [] ∧ L = []
 | x :: xs, us, L => ∃ u us' L1 L2, us = u :: us' ∧ L = L1 ++ L2 ∧ VR F w x u L1 ∧ VRs F w xs us' L2
inductive Arg where
 | sh (x : V)
 | mv (x : V)
 | io (d : D)
def ArgR (F : Nat → Prop) (w : World) : Arg → Value → List Nat → Prop
 | .sh x, v, L => L = [] ∧ VR F w x v []
 | .mv x, v, L => VR F w x v L
 | .io d, v, L => ∃ r, RD F w d r v L
def ArgsR (F : Nat → Prop) (w : World) : List Arg → List Value → List Nat → Prop
 | [], us, L => us = [] ∧ L = []
 | x :: xs, us, L => ∃ u us' L1 L2, us = u :: us' ∧ L = L1 ++ L2 ∧ ArgR F w x u L1 ∧ ArgsR F w xs us' L2
def OutsR (F : Nat → Prop) (w : World) : List Arg → List Value → List D → List Nat → Prop
 | [], _, ds, L => ds = [] ∧ L = []
 | .io _ :: xs, us, ds, L => ∃ u us' d ds' r L1 L2, us = u :: us' ∧ ds = d :: ds' ∧ L = L1 ++ L2 ∧ RD F w d r u L1 ∧ OutsR F w xs us' ds' L2
 | _ :: xs, us, ds, L => ∃ u us', us = u :: us' ∧ OutsR F w xs us' ds L
def retVal : List Value → Value
 | [v] => v
 | vs => .tuple vs.toArray
def Free (w : World) (M : List Nat) (g : Nat) : Prop := g < w.heap.size ∧ g ∉ M
def Res (own : Bool) (F : Nat → Prop) (g : Nat) : Prop := own = false ∧ F g
def CallG (own : Bool) (P : Program) (K : FuncId) (args : List Arg) (rs : List V) (outs : List D) : Prop :=
 ∀ (w : World) (vs : List Value) (M : List Nat) (F : Nat → Prop), (∀ g, F g → g < w.heap.size ∧ g ∉ M) → ArgsR F w args vs M → M.Nodup → (∀ g ∈ M, g < w.heap.size) →
  Calls P K vs.toArray w fun e w' => ∃ us Lr Lo, e = .returned (retVal us) ∧ Keep w M w' ∧ VRs (Res own F) w' rs us Lr ∧ OutsR (Res own F) w' args vs outs Lo ∧ (Lr ++ Lo).Nodup ∧
   ∀ g ∈ Lr ++ Lo, g < w'.heap.size ∧ (g ∈ M ∨ w.heap.size ≤ g)
def CallZ (Z : (Nat → Prop) → World → Prop) (own : Bool) (P : Program) (K : FuncId) (args : List Arg) (rs : List V) (outs : List D) : Prop :=
 ∀ (w : World) (vs : List Value) (M : List Nat) (F : Nat → Prop), Z F w → (∀ g, F g → g < w.heap.size ∧ g ∉ M) → ArgsR F w args vs M → M.Nodup → (∀ g ∈ M, g < w.heap.size) →
  Calls P K vs.toArray w fun e w' => ∃ us Lr Lo, e = .returned (retVal us) ∧ Keep w M w' ∧ VRs (Res own F) w' rs us Lr ∧ OutsR (Res own F) w' args vs outs Lo ∧ (Lr ++ Lo).Nodup ∧
   ∀ g ∈ Lr ++ Lo, g < w'.heap.size ∧ (g ∈ M ∨ w.heap.size ≤ g)
def CallA := CallG true
class FnOk (P : Program) (K : FuncId) : Prop where
 out : ∃ fn, P.funcs[K]? = some fn ∧ fn.body.isSome = true ∧ (fn.name == "runtime.NumGoroutine") = false
section
variable {P : Program} {n : NN} {nid : Nat} {st : Nat → AV} {f : Fr} {X : Nat → Prop} {a : Act} {w : World} {ρ : Nat → Rho} {L : Nat → List Nat} {M : List Nat}
theorem run_call {K : FuncId} [hK : FnOk P K] {d : Option Nat} {xs : Array Operand} {ts : Array TypeId} {ty pos aft g} (ev : Operand → Value) (hev : ev (.func K) = .func (.func K) #[] #[]) (w : World) :
  (execOp ev ⟨d, .call ⟨.value (.func K), xs, ts⟩, ty, pos, aft, g⟩).run P w = .ok (.enter K (xs.map ev)) w := by
 obtain ⟨fn, h1, h2, h3⟩ := hK.out
 have h4 : ¬ fn.body = none := by cases h : fn.body <;> simp [h] at h2 ⊢
 have h3 : ¬ fn.name = "runtime.NumGoroutine" := by simpa using h3
 simp [execOp, resolve, hev, Deferred.ofValue, invoke, callFunc, h1, h3, h4]
theorem wp_of_enter {o : Oper} {a : Act} {w w1 : World} {K : Act → World → Prop} {Q : Exit → Act → World → Prop} {k : FuncId} {args : Array Value}
  (hr : (execOp a.eval o).run P w = .ok (.enter k args) w1) (hK : Calls P k args w1 fun e w' => ∃ v, e = .returned v ∧ K (a.put o.dst v) w') : o.wp P a w K Q := by
 unfold Oper.wp
 rw [hr]
 refine hK.mono fun e w' ⟨v, he, h⟩ => ?_
 subst he
 exact h
inductive ShowsAV (st : Nat → AV) : AV → List Nat → D → Prop
 | c {d} : ShowsAV st (.c d) [] d
 | raw {d d'} : d.erase = d' → ShowsAV st (.raw d) [] d'
 | ptr {x id cs cs'} : st x = .own id (.pt true cs) → D.erases cs = cs' → ShowsAV st (.ptr x id [] 0) [x] (.pt false cs')
 | sptr {cs} : ShowsAV st (.sptr cs 0) [] (.pt false cs)
 | als {x id path d sz cs cs'} : st x = .own id d → d.nav path = some (.sl true sz cs) → D.erases cs = cs' → ShowsAV st (.als x id path) [x] (.sl false sz cs')
inductive ShowsAVs (st : Nat → AV) : List AV → List Nat → List D → Prop
 | nil : ShowsAVs st [] [] []
 | cons {x xs rd rds d ds} : ShowsAV st x rd d → ShowsAVs st xs rds ds → ShowsAVs st (x :: xs) (rd ++ rds) (d :: ds)
theorem ShowsAV.agree {st st' : Nat → AV} {x : AV} {rd : List Nat} {d : D} (h : ShowsAV st x rd d) (hs : ∀ s ∈ rd, st' s = st s) : ShowsAV st' x rd d := by
 cases h with
 | c => exact .c
 | raw h => exact .raw h
 | ptr h1 h2 => exact .ptr ((hs _ (by simp)).trans h1) h2
 | sptr => exact .sptr
 | als h1 h2 h3 => exact .als ((hs _ (by simp)).trans h1) h2 h3
theorem ShowsAVs.agree {st st' : Nat → AV} : ∀ {xs : List AV} {rd : List Nat} {ds : List D}, ShowsAVs st xs rd ds → (∀ s ∈ rd, st' s = st s) → ShowsAVs st' xs rd ds
 | _, _, _, .nil, _ => .nil
 | _, _, _, .cons h1 h2, hs => .cons (h1.agree fun s hs' => hs s (by simp [hs'])) (ShowsAVs.agree h2 fun s hs' => hs s (by simp [hs']))
inductive Shows (st : Nat → AV) : Operand → List Nat → V → Prop
 | lit {x v} : Lit st x v → v.oneCell' = true → Shows st x (rdOf x) (.one (.lit v))
 | c {t d} : st t = .c d → Shows st (.tmp t) [t] (.one d)
 | view {x rd sz cs cs'} : View st x rd sz cs → D.erases cs = cs' → Shows st x rd (.one (.sl false sz cs'))
 | ptr {t x id cs cs'} : st t = .ptr x id [] 0 → st x = .own id (.pt true cs) → D.erases cs = cs' → Shows st (.tmp t) [t, x] (.one (.pt false cs'))
 | root {t id cs cs'} : st t = .own id (.pt true cs) → D.erases cs = cs' → Shows st (.tmp t) [t] (.one (.pt false cs'))
 | sptr {t cs} : st t = .sptr cs 0 → Shows st (.tmp t) [t] (.one (.pt false cs))
 | clo {t k l rd ds} : st t = .clo k l → ShowsAVs st l rd ds → Shows st (.tmp t) (t :: rd) (.one (.fn k ds))
 | func {k} : Shows st (.func k) [] (.one (.fn k []))
theorem Shows.agree {st st' : Nat → AV} {x : Operand} {rd : List Nat} {v : V} (h : Shows st x rd v) (hs : ∀ s ∈ rd, st' s = st s) : Shows st' x rd v := by
 cases h with
 | lit h h1 => exact .lit (h.agree hs) h1
 | c h => exact .c ((hs _ (by simp)).trans h)
 | view h h1 => exact .view (h.agree hs) h1
 | ptr h1 h2 h3 => exact .ptr ((hs _ (by simp)).trans h1) ((hs _ (by simp)).trans h2) h3
 | root h1 h2 => exact .root ((hs _ (by simp)).trans h1) h2
 | sptr h => exact .sptr ((hs _ (by simp)).trans h)
 | clo h1 h2 => exact .clo ((hs _ (by simp)).trans h1) (h2.agree fun s hs' => hs s (by simp [hs']))
 | func => exact .func
theorem RepM.free (h : RepM f X st a w ρ L M) {g : Nat} (hg : f.F g) : Free w M g := ⟨h.rep.F_lt hg, fun hm => (h.bound g hm).2 hg⟩
theorem RepM.free_slot (h : RepM f X st a w ρ L M) {t g : Nat} (hg : g ∈ L t) : Free w M g := ⟨(h.rep.bound t g hg).1, h.disj t g hg⟩
theorem ShowsAV.rd (h : RepM f X st a w ρ L M) {x : AV} {rd : List Nat} {d : D} (hv : ShowsAV st x rd d) {v : Value} {L0 : List Nat} (hx : SR f.F w ρ x v L0) (hL0 : ∀ g ∈ L0, Free w M g) : ∃ r, RD (Free w M) w d r v [] := by
 cases hv with
 | c =>
  simp only [SR] at hx
  obtain ⟨_, r, h1⟩ := hx
  exact ⟨r, RD.same (fun _ hg => h.free hg) (fun _ _ => rfl) _ r _ [] h1 (by simp)⟩
 | raw he =>
  subst he
  simp only [SR] at hx
  obtain ⟨r, h1⟩ := hx
  exact ⟨r, RD.erase (fun _ hg => h.free hg) _ r _ L0 h1 hL0⟩
 | @ptr x id cs cs' h1 h2 =>
  subst h2
  simp only [SR] at hx
  obtain ⟨_, b, hb, e1⟩ := hx
  have h3 := h.rep.slots x
  rw [h1] at h3
  simp only [SR] at h3
  have e : v = tmp a x := by
   simp only [RD] at h3
   obtain ⟨e2, g, us, L1, ty, e3, _⟩ := h3
   have e2 : tmp a x = ρ id [] := e2
   rw [← e2, e3] at hb
   simp only [baseOf, Option.some.injEq] at hb
   rw [e1, e3, ← hb]
   rfl
  rw [e]
  have h4 := RD.erase (F' := Free w M) (fun _ hg => h.free hg) _ _ _ _ h3 (fun g hg => h.free_slot hg)
  simp only [D.erase] at h4
  exact ⟨_, h4⟩
 | @sptr cs =>
  simp only [SR] at hx
  obtain ⟨_, b, us, r, e0, hb, hc, h5⟩ := hx
  refine ⟨r, ?_⟩
  simp only [RD]
  rw [add_zero'] at e0
  exact ⟨trivial, b, us, e0, h.free hb, hc, RDs.same (fun _ hg => h.free hg) (fun _ _ => rfl) cs 0 r us [] h5 (by simp)⟩
 | als h1 h2 h3 =>
  subst h3
  obtain ⟨v1, A, L1, B, eL, h4, _⟩ := h.rep.part h1 h2
  simp only [SR] at hx
  have e : v = v1 := by
   rw [hx.2]
   simp only [RD] at h4
   rw [h4.1, Rho.sub_nil]
  rw [e]
  have h5 := RD.erase (F' := Free w M) (fun _ hg => h.free hg) _ _ _ _ h4 (fun g hg => h.free_slot (by rw [eL]; simp [hg]))
  simp only [D.erase] at h5
  exact ⟨_, h5⟩
theorem ShowsAVs.rds (h : RepM f X st a w ρ L M) : ∀ {xs : List AV} {rd : List Nat} {ds : List D} {vs : List Value} {L0 : List Nat} (k : Nat), ShowsAVs st xs rd ds → SRs f.F w ρ xs vs L0 → (∀ g ∈ L0, Free w M g) → ∃ r, RDs (Free w M) w ds k r vs []
 | _, _, _, _, _, k, .nil, hx, _ => by simp only [SRs] at hx; exact ⟨fun _ => undef, by simp only [RDs]; exact ⟨hx.1, trivial⟩⟩
 | _, _, _, _, _, k, .cons (d := d) (ds := ds) h1 h2, hx, hL0 => by
  simp only [SRs] at hx
  obtain ⟨v, vs', L1, L2, rfl, rfl, h3, h4⟩ := hx
  obtain ⟨r1, e1⟩ := h1.rd h h3 (fun g hg => hL0 g (by simp [hg]))
  obtain ⟨r2, e2⟩ := ShowsAVs.rds h (k + 1) h2 h4 (fun g hg => hL0 g (by simp [hg]))
  refine ⟨fun π => match π with | [] => undef | j :: q => if j = k then r1 q else r2 (j :: q), ?_⟩
  simp only [RDs]
  refine ⟨v, vs', [], [], rfl, rfl, RD.rho d r1 _ v [] e1 (fun π => by simp [Rho.at]), RDs.rho ds (k + 1) r2 _ vs' [] e2 (fun j hj => ?_)⟩
  funext π
  simp [Rho.at, show j ≠ k from by omega]
theorem Shows.rd (h : RepM f X st a w ρ L M) {x : Operand} {rd : List Nat} {v : V} (hv : Shows st x rd v) : VR (Free w M) w v (a.eval x) [] := by
 cases hv with
 | @lit x v hl h1 =>
  rw [Lit.eval h.rep hl]
  exact ⟨fun _ => undef, by simp only [RD]; exact ⟨trivial, h1, trivial⟩⟩
 | @c t d ht =>
  have := h.rep.slots t
  rw [ht] at this
  simp only [SR] at this
  obtain ⟨_, r, h1⟩ := this
  exact ⟨r, RD.same (fun _ hg => h.free hg) (fun _ _ => rfl) d r _ [] h1 (by simp)⟩
 | @view x rd sz cs cs' hv he =>
  subst he
  cases hv with
  | @sh t sz cs ht =>
   have := h.rep.slots t
   rw [ht] at this
   simp only [SR] at this
   obtain ⟨_, r, h1⟩ := this
   have h2 := RD.erase (F' := Free w M) (fun _ hg => h.free hg) _ r _ [] h1 (by simp)
   simp only [D.erase] at h2
   exact ⟨r, h2⟩
  | @root t id sz cs ht =>
   have := h.rep.slots t
   rw [ht] at this
   simp only [SR] at this
   have h2 := RD.erase (F' := Free w M) (fun _ hg => h.free hg) _ _ _ _ this (fun g hg => h.free_slot hg)
   simp only [D.erase] at h2
   exact ⟨_, h2⟩
  | @als t x id path d sz cs ht hx hn =>
   obtain ⟨v1, A, L1, B, eL, h1, _⟩ := h.rep.part hx hn
   have ht' := h.rep.slots t
   rw [ht] at ht'
   simp only [SR] at ht'
   have e : a.eval (.tmp t) = v1 := by
    have : a.eval (.tmp t) = ρ id path := ht'.2
    rw [this]
    simp only [RD] at h1
    rw [h1.1, Rho.sub_nil]
   rw [e]
   have h2 := RD.erase (F' := Free w M) (fun _ hg => h.free hg) _ _ _ _ h1 (fun g hg => h.free_slot (t := x) (by rw [eL]; simp [hg]))
   simp only [D.erase] at h2
   exact ⟨_, h2⟩
  | @sub t x id path d sz lo n cs ht hx hn =>
   obtain ⟨us, L0, L1, h1, h2, h3⟩ := h.rep.partSl hx hn
   have := h.rep.slots t
   rw [ht] at this
   simp only [SR] at this
   obtain ⟨_, a0, n0, c0, a1, c1, e1, e2, e3, e4, e5, e6⟩ := this
   have hsh : ShRow (Free w M) w (ρ id path) sz us := by
    rcases h1 with ⟨e, rfl, rfl⟩ | ⟨g, o, n, cap, cur, e, h1, h4, h5, h6, h7, h8, h9, rfl⟩
    ·exact ⟨none, 0, 0, e, by simp, Nat.le_refl _, Nat.zero_le _, fun h => absurd rfl h⟩
    ·refine ⟨some ⟨g, o, none⟩, n, cap, h1, h5, h6, h7, fun _ => ⟨_, rfl, h.free_slot (h3 g (by simp)), fun j u hu => ?_⟩⟩
     rw [addr_off]
     exact cell_off h4 h9 hu
   have her := RDs.erase (F' := Free w M) (fun _ hg => h.free hg) cs 0 _ us L1 h2 (fun g hg => h.free_slot (h3 g (.inr hg)))
   obtain ⟨r, hr⟩ := RDs.cut (lo * sz) (n * sz) _ _ _ _ her
   refine ⟨r, ?_⟩
   simp only [RD]
   refine ⟨trivial, _, ?_, by rw [D.erases_eq, List.map_take, List.map_drop, ← D.erases_eq]; exact hr⟩
   change ShRow _ _ (tmp a t) _ _
   rw [e2]
   exact hsh.cut e1 e3 e4 e5 (fun hne => (e6 hne).2)
  | @nil sz =>
   exact ⟨fun _ => undef, by simp only [RD, D.erases]; exact ⟨trivial, [], ⟨none, 0, 0, rfl, by simp, Nat.le_refl _, Nat.zero_le _, fun h => absurd rfl h⟩, by simp [RDs]⟩⟩
 | @ptr t x id cs cs' ht hx he =>
  subst he
  have h1 := h.rep.slots t
  rw [ht] at h1
  simp only [SR] at h1
  obtain ⟨_, b, hb, h1⟩ := h1
  have h2 := h.rep.slots x
  rw [hx] at h2
  simp only [SR] at h2
  have e : a.eval (.tmp t) = tmp a x := by
   have e1 : a.eval (.tmp t) = _ := h1
   rw [e1]
   simp only [RD] at h2
   obtain ⟨e2, g, us, L1, ty, e3, _⟩ := h2
   rw [← e2, e3] at hb
   simp only [baseOf, Option.some.injEq] at hb
   rw [e3, ← hb]
   rfl
  rw [e]
  have h3 := RD.erase (F' := Free w M) (fun _ hg => h.free hg) _ _ _ _ h2 (fun g hg => h.free_slot hg)
  simp only [D.erase] at h3
  exact ⟨_, h3⟩
 | @root t id cs cs' ht he =>
  subst he
  have h2 := h.rep.slots t
  rw [ht] at h2
  simp only [SR] at h2
  have h3 := RD.erase (F' := Free w M) (fun _ hg => h.free hg) _ _ _ _ h2 (fun g hg => h.free_slot hg)
  simp only [D.erase] at h3
  exact ⟨_, h3⟩
 | @sptr t cs ht =>
  have h1 := h.rep.slots t
  rw [ht] at h1
  simp only [SR] at h1
  obtain ⟨_, b, us, r, e0, hb, hc, h5⟩ := h1
  refine ⟨r, ?_⟩
  simp only [RD]
  have e1 : a.eval (.tmp t) = _ := e0
  rw [add_zero'] at e1
  exact ⟨trivial, b, us, e1, h.free hb, hc, RDs.same (fun _ hg => h.free hg) (fun _ _ => rfl) cs 0 r us [] h5 (by simp)⟩
 | @clo t k l rd ds ht hl =>
  have h1 := h.rep.slots t
  rw [ht] at h1
  simp only [SR] at h1
  obtain ⟨vs, e0, hv⟩ := h1
  obtain ⟨r, e1⟩ := hl.rds h 0 hv (fun g hg => h.free_slot hg)
  refine ⟨r, ?_⟩
  simp only [RD]
  exact ⟨trivial, vs, e0, e1⟩
 | @func k =>
  refine ⟨fun _ => undef, ?_⟩
  simp only [RD, RDs]
  exact ⟨trivial, [], rfl, rfl, trivial⟩
inductive Moves : (Nat → AV) → List Operand → List Arg → List Nat → List (Nat × AV) → Prop
 | nil {s0 : Nat → AV} : Moves s0 [] [] [] []
 | sh {s0 : Nat → AV} {x : Operand} {xs : List Operand} {v : V} {args : List Arg} {rd : List Nat} {up : List (Nat × AV)} : Moves s0 xs args rd up → Moves s0 (x :: xs) (.sh v :: args) rd up
 | mv {s0 : Nat → AV} {x : Operand} {xs : List Operand} {d : D} {args : List Arg} {rd rds : List Nat} {up ups : List (Nat × AV)} : Give s0 x rd d up → Moves (puts s0 up) xs args rds ups → Moves s0 (x :: xs) (.mv (.one d) :: args) (rd ++ rds) (up ++ ups)
 | mvAgg {s0 : Nat → AV} {t : Nat} {l : List AV} {ds : List D} {xs : List Operand} {args : List Arg} {rds : List Nat} {ups : List (Nat × AV)} : s0 t = .agg l → AV.dats l = some ds → Moves (put s0 t .dead) xs args rds ups → Moves s0 (.tmp t :: xs) (.mv (.agg ds) :: args) (t :: rds) ((t, .dead) :: ups)
inductive Reads (st : Nat → AV) : List Operand → List Arg → List Nat → Prop
 | nil : Reads st [] [] []
 | sh {x xs v args rd rds} : Shows st x rd v → Reads st xs args rds → Reads st (x :: xs) (.sh v :: args) (rd ++ rds)
 | shAgg {t l ds xs args rd rds} : st t = .agg l → ShowsAVs st l rd ds → Reads st xs args rds → Reads st (.tmp t :: xs) (.sh (.agg ds) :: args) (t :: rd ++ rds)
 | mv {x xs v args rds} : Reads st xs args rds → Reads st (x :: xs) (.mv v :: args) rds
theorem Moves.agree : ∀ {st st' : Nat → AV} {xs : List Operand} {args : List Arg} {rd : List Nat} {up : List (Nat × AV)}, Moves st xs args rd up → (∀ s ∈ rd, st' s = st s) → Moves st' xs args rd up
 | _, _, _, _, _, _, .nil, _ => .nil
 | _, _, _, _, _, _, .sh h, hs => .sh (Moves.agree h hs)
 | _, _, _, _, _, _, .mv h1 h2, hs => .mv (h1.agree fun s hs' => hs s (by simp [hs'])) (Moves.agree h2 fun s hs' => puts_agree _ _ (hs s (by simp [hs'])))
 | _, _, _, _, _, _, .mvAgg h1 h2 h3, hs => .mvAgg ((hs _ (by simp)).trans h1) h2 (Moves.agree h3 fun s hs' => puts_agree [(_, _)] s (hs s (by simp [hs'])))
theorem Reads.agree {st st' : Nat → AV} : ∀ {xs : List Operand} {args : List Arg} {rd : List Nat}, Reads st xs args rd → (∀ s ∈ rd, st' s = st s) → Reads st' xs args rd
 | _, _, _, .nil, _ => .nil
 | _, _, _, .sh h1 h2, hs => .sh (h1.agree fun s hs' => hs s (by simp [hs'])) (Reads.agree h2 fun s hs' => hs s (by simp [hs']))
 | _, _, _, .shAgg h1 h2 h3, hs => .shAgg ((hs _ (by simp)).trans h1) (h2.agree fun s hs' => hs s (by simp [hs'])) (Reads.agree h3 fun s hs' => hs s (by simp [hs']))
 | _, _, _, .mv h, hs => .mv (Reads.agree h hs)
inductive MovedR (F : Nat → Prop) (w : World) (ev : Operand → Value) : List Operand → List Arg → List Nat → Prop
 | nil : MovedR F w ev [] [] []
 | sh {x xs v args L} : MovedR F w ev xs args L → MovedR F w ev (x :: xs) (.sh v :: args) L
 | mv {x xs v args L1 L} : VR F w v (ev x) L1 → MovedR F w ev xs args L → MovedR F w ev (x :: xs) (.mv v :: args) (L1 ++ L)
theorem RepM.moves : ∀ {st : Nat → AV} {L : Nat → List Nat} {M : List Nat}, RepM f X st a w ρ L M → ∀ {xs : List Operand} {args : List Arg} {rd : List Nat} {up : List (Nat × AV)}, Moves st xs args rd up →
  ∃ L' M1, RepM f X (puts st up) a w ρ L' (M ++ M1) ∧ MovedR f.F w a.eval xs args M1
 | st, L, M, h, _, _, _, _, .nil => ⟨L, [], by simpa [puts] using h, .nil⟩
 | st, L, M, h, _, _, _, _, .sh h1 => by
  obtain ⟨L', M1, hm, hr⟩ := RepM.moves h h1
  exact ⟨L', M1, hm, .sh hr⟩
 | st, L, M, h, _, _, _, _, .mv h1 h2 => by
  obtain ⟨r1, L1, M1, hm1, hr1⟩ := h.give h1
  obtain ⟨L2, M2, hm2, hr2⟩ := RepM.moves hm1 h2
  exact ⟨L2, M1 ++ M2, by rw [puts_append, ← List.append_assoc]; exact hm2, .mv ⟨r1, hr1⟩ hr2⟩
 | st, L, M, h, _, _, _, _, .mvAgg (t := t) (l := l) (ds := ds) h1 h2 h3 => by
  have ht := h.rep.slots t
  rw [h1] at ht
  simp only [SR] at ht
  obtain ⟨vs, e0, hv⟩ := ht
  obtain ⟨r, hv⟩ := hv.dats l ds 0 vs (L t) h2
  have hm1 := h.detach t .dead [] (L t) (by simp only [SR]) (by simp [AV.ids]) (fun g hg => by simpa using hg) List.nodup_nil (h.rep.nodup t) (by simp)
  obtain ⟨L2, M2, hm2, hr2⟩ := RepM.moves hm1 h3
  exact ⟨L2, L t ++ M2, by rw [← List.append_assoc]; exact hm2, .mv ⟨r, vs, e0, hv⟩ hr2⟩
theorem VR.same {F F' : Nat → Prop} {w w' : World} (hF : ∀ g, F g → F' g) (hs : ∀ g, F g → Same w w' g) {v : V} {u : Value} {L0 : List Nat} (h : VR F w v u L0) (hL : ∀ g ∈ L0, Same w w' g) : VR F' w' v u L0 := by
 cases v with
 | one d => obtain ⟨r, h⟩ := h; exact ⟨r, RD.same hF hs d r u L0 h hL⟩
 | agg ds => obtain ⟨r, us, e, h⟩ := h; exact ⟨r, us, e, RDs.same hF hs ds 0 r us L0 h hL⟩
theorem args_of {rd : List Nat} (h : RepM f X st a w ρ L M) : ∀ {xs : List Operand} {args : List Arg} {M1 : List Nat}, MovedR f.F w a.eval xs args M1 → ∀ {rd : List Nat}, Reads st xs args rd → ArgsR (Free w M) w args (xs.map a.eval) M1
 | _, _, _, .nil, _, .nil => by simp [ArgsR]
 | _, _, _, .sh h1, _, .sh h2 h3 => by
  simp only [ArgsR, List.map_cons]
  exact ⟨_, _, [], _, rfl, rfl, ⟨rfl, h2.rd h⟩, args_of (rd := rd) h h1 h3⟩
 | _, _, _, .sh h1, _, .shAgg (t := t) h2 h4 h3 => by
  simp only [ArgsR, List.map_cons]
  have ht := h.rep.slots t
  rw [h2] at ht
  simp only [SR] at ht
  obtain ⟨vs, e0, hv⟩ := ht
  obtain ⟨r, e1⟩ := h4.rds h 0 hv (fun g hg => h.free_slot hg)
  exact ⟨_, _, [], _, rfl, rfl, ⟨rfl, r, vs, e0, e1⟩, args_of (rd := rd) h h1 h3⟩
 | _, _, _, .mv h1 h2, _, .mv h3 => by
  simp only [ArgsR, List.map_cons]
  exact ⟨_, _, _, _, rfl, rfl, h1.same (fun _ hg => h.free hg) (fun _ _ => rfl) (fun _ _ => rfl), args_of (rd := rd) h h2 h3⟩
def V.av : V → AV
 | .one (.lit v) => .c (.lit v)
 | .one d => .raw d
 | .agg ds => .agg (ds.map AV.raw)
def resAV (nid : Nat) : List V → AV
 | [] => .dead
 | [v] => match v with
  | .one (.lit v) => .c (.lit v)
  | .one d => .own nid d
  | .agg ds => .agg (ds.map AV.raw)
 | vs => .tup (vs.map V.av)
theorem SRs_raws {F : Nat → Prop} {w : World} {ρ : Nat → Rho} : ∀ (ds : List D) (k : Nat) (r : Rho) (us : List Value) (L : List Nat), RDs F w ds k r us L → SRs F w ρ (ds.map AV.raw) us L
 | [], _, _, _, _, h => by simpa only [RDs, SRs, List.map_nil] using h
 | d :: ds, k, r, us, L, h => by
  simp only [RDs] at h
  obtain ⟨u, us', L1, L2, rfl, rfl, h1, h2⟩ := h
  simp only [List.map_cons, SRs, SR]
  exact ⟨u, us', L1, L2, rfl, rfl, ⟨_, h1⟩, SRs_raws ds (k + 1) r us' L2 h2⟩
theorem SR_av {F : Nat → Prop} {w : World} {ρ : Nat → Rho} {v : V} {u : Value} {L : List Nat} (h : VR F w v u L) : SR F w ρ v.av u L := by
 cases v with
 | one d =>
  cases d with
  | lit u' =>
   obtain ⟨r, h⟩ := h
   simp only [V.av, SR]
   have h' := h
   simp only [RD] at h'
   obtain ⟨_, _, rfl⟩ := h'
   exact ⟨rfl, r, h⟩
  | _ => simp only [V.av, SR]; exact h
 | agg ds => obtain ⟨r, us, e, h⟩ := h; simp only [V.av, SR]; exact ⟨us, e, SRs_raws ds 0 r us L h⟩
theorem SRs_avs {F : Nat → Prop} {w : World} {ρ : Nat → Rho} : ∀ (vs : List V) (us : List Value) (L : List Nat), VRs F w vs us L → SRs F w ρ (vs.map V.av) us L
 | [], _, _, h => by simpa only [VRs, SRs, List.map_nil] using h
 | v :: vs, us, L, h => by
  simp only [VRs] at h
  obtain ⟨u, us', L1, L2, rfl, rfl, h1, h2⟩ := h
  simp only [List.map_cons, SRs]
  exact ⟨u, us', L1, L2, rfl, rfl, SR_av h1, SRs_avs vs us' L2 h2⟩
theorem idss_raws (ds : List D) : AV.idss (ds.map AV.raw) = [] := by
 induction ds with
 | nil => rfl
 | cons d ds ih => simp [AV.idss, AV.ids, ih]
theorem idss_avs (vs : List V) : AV.idss (vs.map V.av) = [] := by
 induction vs with
 | nil => rfl
 | cons v vs ih =>
  cases v with
  | one d => cases d <;> simp [AV.idss, AV.ids, V.av, ih]
  | agg ds => simp [AV.idss, AV.ids, V.av, idss_raws, ih]
theorem VRs.length {F : Nat → Prop} {w : World} : ∀ {vs : List V} {us : List Value} {L : List Nat}, VRs F w vs us L → us.length = vs.length
 | [], _, _, h => by simp only [VRs] at h; simp [h.1]
 | v :: vs, us, L, h => by
  simp only [VRs] at h
  obtain ⟨u, us', L1, L2, rfl, _, _, h2⟩ := h
  simp [VRs.length h2]
theorem RepM.put_res {K : Act → World → Prop} (h : RepM f X st a w ρ L M) {d : Nat} {rs : List V} (hK : ∀ a' w', Rep f (fun i => X i ∨ i = nid) (put st d (resAV nid rs)) a' w' → K a' w') (hd : f.N d = true) (hid : ¬ X nid) (us : List Value) (w' : World) (hk : Keep w M w') (Lr : List Nat)
  (hv : VRs f.F w' rs us Lr) (hn : Lr.Nodup) (hL : ∀ g ∈ Lr, g < w'.heap.size ∧ (g ∈ M ∨ w.heap.size ≤ g)) : K (a.put (some d) (retVal us)) w' := by
 have gen : ∀ av, (SR f.F w' ρ av (retVal us) Lr) → av.ids = [] → (∀ a' w', Rep f (fun i => X i ∨ i = nid) (put st d av) a' w' → K a' w') → K (a.put (some d) (retVal us)) w' := by
  intro av h1 h2 h3
  exact h.put_raw h3 hd _ w' M (fun _ h => h) hk Lr h1 hn hL (by simp [h2])
 have hl := hv.length
 match rs, hK, hv, hl with
 | [], hK, hv, hl =>
  simp only [VRs] at hv
  obtain ⟨rfl, rfl⟩ := hv
  exact gen .dead (by simp only [SR]) rfl hK
 | [.one (.lit u)], hK, hv, hl =>
  simp only [VRs] at hv
  obtain ⟨u', us', L1, L2, rfl, rfl, ⟨r, h1⟩, rfl, rfl⟩ := hv
  simp only [RD] at h1
  obtain ⟨rfl, h2, rfl⟩ := h1
  exact gen (.c (.lit u')) (by simp only [SR, RD, retVal]; exact ⟨rfl, fun _ => undef, trivial, h2, trivial⟩) rfl hK
 | [.one (.sl o sz cs)], hK, hv, hl =>
  simp only [VRs] at hv
  obtain ⟨u', us', L1, L2, rfl, rfl, ⟨r, h1⟩, rfl, rfl⟩ := hv
  exact h.put_root hK hd hid _ w' M (fun _ h => h) hk r _ (by simpa [retVal] using h1) hn hL
 | [.one (.pt o cs)], hK, hv, hl =>
  simp only [VRs] at hv
  obtain ⟨u', us', L1, L2, rfl, rfl, ⟨r, h1⟩, rfl, rfl⟩ := hv
  exact h.put_root hK hd hid _ w' M (fun _ h => h) hk r _ (by simpa [retVal] using h1) hn hL
 | [.one .hole], hK, hv, hl =>
  simp only [VRs] at hv
  obtain ⟨u', us', L1, L2, rfl, rfl, ⟨r, h1⟩, rfl, rfl⟩ := hv
  exact h.put_root hK hd hid _ w' M (fun _ h => h) hk r _ (by simpa [retVal] using h1) hn hL
 | [.one (.fn g cs)], hK, hv, hl =>
  simp only [VRs] at hv
  obtain ⟨u', us', L1, L2, rfl, rfl, ⟨r, h1⟩, rfl, rfl⟩ := hv
  exact h.put_root hK hd hid _ w' M (fun _ h => h) hk r _ (by simpa [retVal] using h1) hn hL
 | [.agg ds], hK, hv, hl =>
  simp only [VRs] at hv
  obtain ⟨u', us', L1, L2, rfl, rfl, h1, rfl, rfl⟩ := hv
  refine gen (.agg (ds.map AV.raw)) ?_ (by simp only [AV.ids, idss_raws]) hK
  have := SR_av (ρ := ρ) h1
  simpa [V.av, retVal] using this
 | v1 :: v2 :: vs, hK, hv, hl =>
  have e : resAV nid (v1 :: v2 :: vs) = .tup ((v1 :: v2 :: vs).map V.av) := rfl
  rw [e] at hK
  refine gen _ ?_ (by simp only [AV.ids, idss_avs]) hK
  simp only [SR]
  refine ⟨us, ?_, SRs_avs _ us Lr hv⟩
  match us, hl with
  | [u], hl => simp at hl
  | [], hl => simp at hl
  | u1 :: u2 :: us', _ => rfl
theorem VRs.same {F F' : Nat → Prop} {w w' : World} (hF : ∀ g, F g → F' g) (hs : ∀ g, F g → Same w w' g) : ∀ {vs : List V} {us : List Value} {L0 : List Nat}, VRs F w vs us L0 → (∀ g ∈ L0, Same w w' g) → VRs F' w' vs us L0
 | [], _, _, h, _ => by simpa only [VRs] using h
 | v :: vs, us, L0, h, hL => by
  simp only [VRs] at h ⊢
  obtain ⟨u, us', L1, L2, rfl, rfl, h1, h2⟩ := h
  exact ⟨u, us', L1, L2, rfl, rfl, h1.same hF hs (fun g hg => hL g (by simp [hg])), VRs.same hF hs h2 (fun g hg => hL g (by simp [hg]))⟩
theorem outs_nil {F FF : Nat → Prop} {ev : Operand → Value} {w w' : World} {args : List Arg} {xs : List Operand} {M1 : List Nat} (hm : MovedR F w ev xs args M1) : ∀ vs Lo, OutsR FF w' args vs [] Lo → Lo = [] := by
 induction hm with
 | nil => intro vs Lo ho; simp only [OutsR] at ho; exact ho.2
 | sh _ ih => intro vs Lo ho; simp only [OutsR] at ho; obtain ⟨u, us', _, ho⟩ := ho; exact ih _ _ ho
 | mv _ _ ih => intro vs Lo ho; simp only [OutsR] at ho; obtain ⟨u, us', _, ho⟩ := ho; exact ih _ _ ho
theorem sC_ {d : Nat} {K : FuncId} {xs : Array Operand} {ts : Array TypeId} {args : List Arg} {rs : List V} {rd rd2 : List Nat} {up : List (Nat × AV)} {ty pos aft g} [FnOk P K] (hc : CallA P K args rs []) (hm : Moves st xs.toList args rd up) (hr : Reads (puts st up) xs.toList args rd2) (hd : n d = true) :
  Step P n ⟨some d, .call ⟨.value (.func K), xs, ts⟩, ty, pos, aft, g⟩ nid st (rd ++ rd2) (up ++ [(d, resAV nid rs)]) := by
 intro X st' hs hX f a w hn hrep Kk Q hK
 obtain ⟨ρ, L, h⟩ := hrep
 subst hn
 have hm' := hm.agree (st' := st') fun s hs' => hs s (List.mem_append_left _ hs')
 obtain ⟨L', M1, h1, h2⟩ := h.toM.moves hm'
 rw [puts_append] at hK
 rw [List.nil_append] at h1
 have h3 := args_of (rd := []) h1 h2 (hr.agree (st' := puts st' up) fun s hs' => puts_agree _ _ (hs s (List.mem_append_right _ hs')))
 refine wp_of_enter (run_call a.eval rfl w) ?_
 have e : xs.map a.eval = (xs.toList.map a.eval).toArray := by apply Array.ext'; rw [Array.toList_map]
 rw [e]
 refine (hc w _ M1 (Free w M1) (fun _ h => h) h3 h1.nd (fun g hg => (h1.bound g hg).1)).mono ?_
 rintro e w' ⟨us, Lr, Lo, rfl, hk, hv, ho, hnd, hL⟩
 have hLo : Lo = [] := outs_nil h2 _ _ ho
 subst hLo
 rw [List.append_nil] at hnd hL
 exact ⟨_, rfl, h1.put_res hK hd hX us w' hk Lr (hv.same (fun g hg => by cases hg.1) (fun g hg => by cases hg.1) (fun _ _ => rfl)) hnd hL⟩
theorem step_callZ {Z : (Nat → Prop) → World → Prop} {d : Nat} {K : FuncId} {xs : Array Operand} {ts : Array TypeId} {args : List Arg} {rs : List V} {rd rd2 : List Nat} {up : List (Nat × AV)} {ty pos aft g} [FnOk P K] (hc : CallZ Z true P K args rs []) (hz : ∀ F w, (∀ q ∈ n.R, q.1 = tabId → TabAt F w q) → Z F w) (hm : Moves st xs.toList args rd up) (hr : Reads (puts st up) xs.toList args rd2) (hd : n d = true) :
  Step P n ⟨some d, .call ⟨.value (.func K), xs, ts⟩, ty, pos, aft, g⟩ nid st (rd ++ rd2) (up ++ [(d, resAV nid rs)]) := by
 intro X st' hs hX f a w hn hrep Kk Q hK
 obtain ⟨ρ, L, h⟩ := hrep
 subst hn
 have hm' := hm.agree (st' := st') fun s hs' => hs s (List.mem_append_left _ hs')
 obtain ⟨L', M1, h1, h2⟩ := h.toM.moves hm'
 rw [puts_append] at hK
 rw [List.nil_append] at h1
 have h3 := args_of (rd := []) h1 h2 (hr.agree (st' := puts st' up) fun s hs' => puts_agree _ _ (hs s (List.mem_append_right _ hs')))
 refine wp_of_enter (run_call a.eval rfl w) ?_
 have e : xs.map a.eval = (xs.toList.map a.eval).toArray := by apply Array.ext'; rw [Array.toList_map]
 rw [e]
 refine (hc w _ M1 (Free w M1) (hz _ _ fun q hq => (h1.rep.tabR (fun _ hg => h1.free hg) (fun _ _ => rfl) q hq).2) (fun _ h => h) h3 h1.nd (fun g hg => (h1.bound g hg).1)).mono ?_
 rintro e w' ⟨us, Lr, Lo, rfl, hk, hv, ho, hnd, hL⟩
 have hLo : Lo = [] := outs_nil h2 _ _ ho
 subst hLo
 rw [List.append_nil] at hnd hL
 exact ⟨_, rfl, h1.put_res hK hd hX us w' hk Lr (hv.same (fun g hg => by cases hg.1) (fun g hg => by cases hg.1) (fun _ _ => rfl)) hnd hL⟩
end
end Go.Pv
