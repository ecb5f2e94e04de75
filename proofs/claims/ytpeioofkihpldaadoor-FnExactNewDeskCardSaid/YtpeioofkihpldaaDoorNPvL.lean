/- Steps on numbers, truth values and strings; the parts of a tuple. No condition. -/
import Derived.Test.YtpeioofkihpldaaDoorNPvK
import Derived.Test.YtpeioofkihpldaaDoorNPvG
set_option linter.unusedVariables false
set_option linter.unusedSimpArgs false
namespace Go.Pv
open Go.RowKit
section
variable {P : Program} {n : NN} {st : Nat → AV} {nx : Nat}
theorem Rep.weaken {f : Fr} {X X' : Nat → Prop} {a : Act} {w : World} (h : Rep f X st a w) (hX : ∀ i, X i → X' i) : Rep f X' st a w :=
 let ⟨ρ, L, h⟩ := h
 ⟨ρ, L, h.weaken hX⟩
theorem RepX.weaken {f : Fr} {X X' : Nat → Prop} {a : Act} {w : World} (h : RepX f X st a w) (hX : ∀ i, X i → X' i) : RepX f X' st a w :=
 let ⟨f', k, h⟩ := h
 ⟨f', k, h.weaken hX⟩
def RunL (P : Program) (n : NN) (ops : Array Oper) (l : List Oper) (st : Nat → AV) (nx : Nat) (Q : (Nat → AV) → Nat → Prop) : Prop :=
 ∀ (f : Fr) (a : Act) (w : World) (Q' : Exit → Act → World → Prop), f.N = n → RepX f (fun i => i < nx) st a w →
  (∀ st' nx' a' w', Q st' nx' → RepX f (fun i => i < nx') st' a' w' → Q' .normal a' w') → wpList P ops Q' l a w
theorem RunL.nil {ops : Array Oper} {Q : (Nat → AV) → Nat → Prop} (h : Q st nx) : RunL P n ops [] st nx Q :=
 fun _ a w _ _ hr hQ => hQ st nx a w h hr
theorem RunL.consX {ops : Array Oper} {Q : (Nat → AV) → Nat → Prop} {d op ty pos aft} {l : List Oper} {rd : List Nat} {up : List (Nat × AV)} (hs : StepX P n ⟨d, op, ty, pos, aft, none⟩ nx st rd up) (h : RunL P n ops l (puts st up) (nx + 1) Q) : RunL P n ops (⟨d, op, ty, pos, aft, none⟩ :: l) st nx Q := by
 intro f a w Q' hn hr hQ
 refine wpList_plain rfl fun K hK => hs (fun i => i < nx) st (fun _ _ => rfl) (by omega) f a w hn hr K Q' (fun a' w' hr' => hK a' w' (h f a' w' Q' hn (hr'.weaken (fun i hi => by omega)) hQ))
theorem RunL.cons {ops : Array Oper} {Q : (Nat → AV) → Nat → Prop} {d op ty pos aft} {l : List Oper} {rd : List Nat} {up : List (Nat × AV)} (hs : Step P n ⟨d, op, ty, pos, aft, none⟩ nx st rd up) (h : RunL P n ops l (puts st up) (nx + 1) Q) : RunL P n ops (⟨d, op, ty, pos, aft, none⟩ :: l) st nx Q := by
 intro f a w Q' hn hr hQ
 refine wpList_plain rfl fun K hK => hs.x (fun i => i < nx) st (fun _ _ => rfl) (by omega) f a w hn hr K Q' (fun a' w' hr' => hK a' w' (h f a' w' Q' hn (hr'.weaken (fun i hi => by omega)) hQ))
theorem yielded_lit {f : Fr} {X : Nat → Prop} {a : Act} {w : World} {ops : Array Oper} {j t : Nat} {b : Bool} (hr : RepX f X st a w) (hd : (ops[j]?).bind (·.dst) = some t) (ht : st t = .c (.lit (.bool b))) : yielded ops a.tmps j = some b := by
 obtain ⟨f', _, ρ, L, h⟩ := hr
 have := h.slots t
 rw [ht] at this
 simp only [SR, RD] at this
 have e := this.2.choose_spec.1
 unfold tmp at e
 rw [Array.getD_eq_getD_getElem?] at e
 unfold yielded
 rw [hd]
 simp only [Option.bind_some]
 cases hc : a.tmps[t]? with
 | none => rw [hc] at e; simp [undef] at e
 | some v => rw [hc] at e; simp at e; subst e; rfl
theorem yielded_undef {f : Fr} {X : Nat → Prop} {a : Act} {w : World} {ops : Array Oper} {j t : Nat} (hr : RepX f X st a w) (hd : (ops[j]?).bind (·.dst) = some t) (ht : st t = .tup []) : yielded ops a.tmps j = none := by
 obtain ⟨f', _, ρ, L, h⟩ := hr
 have := h.slots t
 rw [ht] at this
 simp only [SR, SRs] at this
 obtain ⟨vs, e, rfl, _⟩ := this
 unfold tmp at e
 rw [Array.getD_eq_getD_getElem?] at e
 unfold yielded
 rw [hd]
 simp only [Option.bind_some]
 cases hc : a.tmps[t]? with
 | none => rfl
 | some v => rw [hc] at e; simp at e; subst e; rfl
theorem RunL.doit {ops : Array Oper} {Q : (Nat → AV) → Nat → Prop} {d op ty pos aft j b t} {l : List Oper} {rd : List Nat} {up : List (Nat × AV)} (hd : (ops[j]?).bind (·.dst) = some t) (ht : st t = .c (.lit (.bool b)))
  (hs : Step P n ⟨d, op, ty, pos, aft, some (j, b)⟩ nx st rd up) (h : RunL P n ops l (puts st up) (nx + 1) Q) : RunL P n ops (⟨d, op, ty, pos, aft, some (j, b)⟩ :: l) st nx Q := by
 intro f a w Q' hn hr hQ
 refine wpList_step fun K hK => ?_
 have hy := yielded_lit hr hd ht
 simp only [Region.wanted, hy, beq_self_eq_true, if_true]
 exact hs.x (fun i => i < nx) st (fun _ _ => rfl) (by omega) f a w hn hr K Q' (fun a' w' hr' => hK a' w' (h f a' w' Q' hn (hr'.weaken (fun i hi => by omega)) hQ))
theorem Rep.skip {f : Fr} {X : Nat → Prop} {a : Act} {w : World} (h : Rep f X st a w) {d : Nat} (hd : f.N d = true) : Rep f X (put st d (.tup [])) (a.put (some d) undef) w := by
 obtain ⟨ρ, L, h⟩ := h
 exact ⟨ρ, _, h.put_light d hd (.tup []) undef w (Keep.refl w) (by simp only [SR, SRs]; exact ⟨[], rfl, rfl, trivial⟩) (by simp [AV.ids, AV.idss])⟩
theorem RepX.skip {f : Fr} {X : Nat → Prop} {a : Act} {w : World} (h : RepX f X st a w) {d : Nat} (hd : f.N d = true) : RepX f X (put st d (.tup [])) (a.put (some d) undef) w :=
 let ⟨f', k, h⟩ := h
 ⟨f', k, h.skip (by rw [k.N]; exact hd)⟩
theorem RunL.pass {ops : Array Oper} {Q : (Nat → AV) → Nat → Prop} {d op ty pos aft j b b' t} {l : List Oper} (hd : (ops[j]?).bind (·.dst) = some t) (ht : st t = .c (.lit (.bool b))) (hb : b = !b') (hdn : n d = true)
  (h : RunL P n ops l (put st d (.tup [])) nx Q) : RunL P n ops (⟨some d, op, ty, pos, aft, some (j, b')⟩ :: l) st nx Q := by
 intro f a w Q' hn hr hQ
 refine wpList_step fun K hK => ?_
 have hy := yielded_lit hr hd ht
 have hw : Region.wanted ⟨some d, op, ty, pos, aft, some (j, b')⟩ (yielded ops a.tmps) = false := by
  simp only [Region.wanted, hy, hb]
  cases b' <;> rfl
 simp only [hw, Bool.false_eq_true, if_false]
 subst hn
 exact hK _ _ (h f _ w Q' rfl (hr.skip hdn) hQ)
theorem RunL.pass_undef {ops : Array Oper} {Q : (Nat → AV) → Nat → Prop} {d op ty pos aft j b' t} {l : List Oper} (hd : (ops[j]?).bind (·.dst) = some t) (ht : st t = .tup []) (hdn : n d = true)
  (h : RunL P n ops l (put st d (.tup [])) nx Q) : RunL P n ops (⟨some d, op, ty, pos, aft, some (j, b')⟩ :: l) st nx Q := by
 intro f a w Q' hn hr hQ
 refine wpList_step fun K hK => ?_
 have hy := yielded_undef hr hd ht
 have hw : Region.wanted ⟨some d, op, ty, pos, aft, some (j, b')⟩ (yielded ops a.tmps) = false := by
  simp only [Region.wanted, hy]
  rfl
 simp only [hw, Bool.false_eq_true, if_false]
 subst hn
 exact hK _ _ (h f _ w Q' rfl (hr.skip hdn) hQ)
def WpA (P : Program) (n : NN) (c : Code) (st : Nat → AV) (nx : Nat) (Q : Exit → (Nat → AV) → Nat → Prop) : Prop :=
 ∀ (f : Fr) (a : Act) (w : World), f.N = n → RepX f (fun i => i < nx) st a w → c.wp P (fun e a' w' => ∃ st' nx', Q e st' nx' ∧ RepX f (fun i => i < nx') st' a' w') a w
def Then (K : (Nat → AV) → Nat → Prop) (Q : Exit → (Nat → AV) → Nat → Prop) : Exit → (Nat → AV) → Nat → Prop
 | .normal, st, nx => K st nx
 | e, st, nx => Q e st nx
def InBlock (id : Nat) (Q : Exit → (Nat → AV) → Nat → Prop) : Exit → (Nat → AV) → Nat → Prop
 | .exit id', st, nx => if id' = id then Q .normal st nx else Q (.exit id') st nx
 | e, st, nx => Q e st nx
variable {Q : Exit → (Nat → AV) → Nat → Prop}
theorem WpA.of0 {c : Code} (h : ∀ (f : Fr) (a : Act) (w : World), f.N = n → Rep f (fun i => i < nx) st a w → c.wp P (fun e a' w' => ∃ st' nx', Q e st' nx' ∧ RepX f (fun i => i < nx') st' a' w') a w) : WpA P n c st nx Q :=
 fun _ a w hn ⟨f', k, hr⟩ => Code.wp_mono (fun _ _ _ ⟨s, m, q, r⟩ => ⟨s, m, q, r.up k⟩) (h f' a w (k.N.trans hn) hr)
theorem WpA.mono {c : Code} {Q' : Exit → (Nat → AV) → Nat → Prop} (h : WpA P n c st nx Q) (hq : ∀ e s k, Q e s k → Q' e s k) : WpA P n c st nx Q' :=
 fun f a w hn hr => Code.wp_mono (fun _ _ _ ⟨s, k, q, r⟩ => ⟨s, k, hq _ _ _ q, r⟩) (h f a w hn hr)
theorem WpA.region {id : Nat} {l : List Oper} (h : RunL P n l.toArray l st nx fun s k => Q .normal s k) : WpA P n (.region id l.toArray false) st nx Q :=
 fun f a w hn hr => wp_region_lit (h f a w _ hn hr fun s k _ _ q r => ⟨s, k, q, r⟩)
theorem WpA.seq {x y : Code} (h : WpA P n x st nx (Then (fun s k => WpA P n y s k Q) Q)) : WpA P n (.seq x y) st nx Q :=
 fun f a w hn hr => wp_seq (Code.wp_mono (fun e a' w' ⟨s, k, q, r⟩ => by
  cases e with
  | normal => exact q f a' w' hn r
  | _ => exact ⟨s, k, q, r⟩) (h f a w hn hr))
theorem WpA.skip (h : Q .normal st nx) : WpA P n .skip st nx Q := fun _ _ _ _ hr => wp_skip ⟨st, nx, h, hr⟩
theorem WpA.ret (h : Q .ret st nx) : WpA P n .ret st nx Q := fun _ _ _ _ hr => wp_ret ⟨st, nx, h, hr⟩
theorem WpA.exit {id : Nat} (h : Q (.exit id) st nx) : WpA P n (.exit id) st nx Q := fun _ _ _ _ hr => wp_exit ⟨st, nx, h, hr⟩
theorem WpA.block {id : Nat} {c : Code} (h : WpA P n c st nx (InBlock id Q)) : WpA P n (.block id c) st nx Q :=
 fun f a w hn hr => wp_block (Code.wp_mono (fun e a' w' ⟨s, k, q, r⟩ => by
  cases e with
  | exit id' =>
   simp only [InBlock] at q
   simp only [Exit.inBlock]
   split <;> rename_i he
   ·rw [if_pos he] at q; exact ⟨s, k, q, r⟩
   ·rw [if_neg he] at q; exact ⟨s, k, q, r⟩
  | _ => exact ⟨s, k, q, r⟩) (h f a w hn hr))
theorem WpA.cond {c : Operand} {x y : Code} {b : Bool} (hc : Lit st c (.bool b)) (ht : b = true → WpA P n x st nx Q) (hf : b = false → WpA P n y st nx Q) : WpA P n (.cond c x y) st nx Q := by
 intro f a w hn hr
 obtain ⟨f', k, ρ, L, h⟩ := hr
 have e := Lit.eval h hc
 exact wp_cond_split e (fun hb => ht hb f a w hn ⟨f', k, ρ, L, h⟩) (fun hb => hf hb f a w hn ⟨f', k, ρ, L, h⟩)
theorem WpA.loop {ι : Type} {c : Code} (I : ι → (Nat → AV) → Prop) (μ : ι → Nat) (i0 : ι) (h0 : I i0 st)
  (round : ∀ i s k, I i s → WpA P n c s k (Then (fun s' _ => ∃ i', I i' s' ∧ μ i' < μ i) Q)) : WpA P n (.loop c) st nx Q := by
 intro f a w hn hr
 have ex : ∀ a w, (∃ i s k, I i s ∧ RepX f (fun i => i < k) s a w) → ∃ m, ∃ i s k, μ i = m ∧ I i s ∧ RepX f (fun i => i < k) s a w := fun a w ⟨i, s, k, h1, h2⟩ => ⟨μ i, i, s, k, rfl, h1, h2⟩
 have least : ∀ (p : Nat → Prop), (∃ m, p m) → ∃ m, p m ∧ ∀ k, p k → m ≤ k := by
  intro p ⟨m, hm⟩
  induction m using Nat.strongRecOn with
  | _ m ih =>
   by_cases h : ∃ k, k < m ∧ p k
   ·obtain ⟨k, hk, hp⟩ := h; exact ih k hk hp
   ·exact ⟨m, hm, fun k hk => Nat.le_of_not_lt fun hlt => h ⟨k, hlt, hk⟩⟩
 let μ' : Act → World → Nat := fun a w => open Classical in if h : ∃ m, ∃ i s k, μ i = m ∧ I i s ∧ RepX f (fun i => i < k) s a w then (least _ h).choose else 0
 refine wp_loop (fun a w => ∃ i s k, I i s ∧ RepX f (fun i => i < k) s a w) μ' ⟨i0, st, nx, h0, hr⟩ fun a w hI => ?_
 have h := ex a w hI
 have hmu : μ' a w = (least _ h).choose := by simp only [μ']; rw [dif_pos h]
 obtain ⟨i, s, k, e1, e2, e3⟩ := (least _ h).choose_spec.1
 refine Code.wp_mono (fun e a' w' ⟨s', k', q, r⟩ => ?_) (round i s k e2 f a w hn e3)
 cases e with
 | normal =>
  obtain ⟨i', h1, h2⟩ := q
  refine ⟨⟨i', s', k', h1, r⟩, ?_⟩
  have h' := ex a' w' ⟨i', s', k', h1, r⟩
  have hmu' : μ' a' w' = (least _ h').choose := by simp only [μ']; rw [dif_pos h']
  have := (least _ h').choose_spec.2 (μ i') ⟨i', s', k', rfl, h1, r⟩
  rw [hmu, hmu', ← e1]
  omega
 | _ => exact ⟨s', k', q, r⟩
def Has (st : Nat → AV) : List (Nat × AV) → Prop
 | [] => True
 | p :: l => st p.1 = p.2 ∧ Has st l
theorem puts_has : ∀ (l : List (Nat × AV)) (st : Nat → AV), Has st l → puts st l = st
 | [], _, _ => rfl
 | (d, v) :: l, st, h => by
  simp only [Has] at h
  simp only [puts]
  have : put st d v = st := by funext t; unfold put; split <;> simp_all
  rw [this]
  exact puts_has l st h.2
theorem WpA.loop_slots {ι : Type} {c : Code} (slots : ι → List (Nat × AV)) (C : ι → Prop) (μ : ι → Nat) (i0 : ι) (hC : C i0) (h0 : Has st (slots i0))
  (round : ∀ i s k, C i → WpA P n c (puts s (slots i)) k (Then (fun s' _ => ∃ i', C i' ∧ Has s' (slots i') ∧ μ i' < μ i) Q)) : WpA P n (.loop c) st nx Q :=
 WpA.loop (fun i s => C i ∧ Has s (slots i)) μ i0 ⟨hC, h0⟩ fun i s k ⟨h1, h2⟩ => by
  have := round i s k h1
  rw [puts_has _ _ h2] at this
  exact this.mono fun e s' k' q => by
   cases e with
   | normal => obtain ⟨i', q1, q2, q3⟩ := q; exact ⟨i', ⟨q1, q2⟩, q3⟩
   | _ => exact q
inductive Ress (P : Program) : (Nat → AV) → List ResultVar → List V → (Nat → AV) → Prop
 | nil {s : Nat → AV} : Ress P s [] [] s
 | one {s s' : Nat → AV} {t : Nat} {rd : List Nat} {d : D} {up : List (Nat × AV)} {rvs : List ResultVar} {vs : List V} : Give s (.tmp t) rd d up → Ress P (puts s up) rvs vs s' → Ress P s (.tmp t :: rvs) (.one d :: vs) s'
 | agg {s s' : Nat → AV} {t : Nat} {l : List AV} {ds : List D} {rvs : List ResultVar} {vs : List V} : s t = .agg l → AV.dats l = some ds → Ress P (put s t .dead) rvs vs s' → Ress P s (.tmp t :: rvs) (.agg ds :: vs) s'
 | cell {s s' : Nat → AV} {t id T sz : Nat} {ds : List D} {rvs : List ResultVar} {vs : List V} : StructTy P T sz → s t = .own id (.pt true ds) → ds.length = sz → Ress P (put s t .dead) rvs vs s' → Ress P s (.cell t T :: rvs) (.agg ds :: vs) s'
 | cell1 {s s' : Nat → AV} {t id T : Nat} {d : D} {rvs : List ResultVar} {vs : List V} : OneTy P T → s t = .own id (.pt true [d]) → Ress P (put s t .dead) rvs vs s' → Ress P s (.cell t T :: rvs) (.one d :: vs) s'
inductive Outs (st : Nat → AV) : Nat → List Arg → List D → Prop
 | nil {p} : Outs st p [] []
 | io {p id d d0 args ds} : st p = .own id d → Outs st (p + 1) args ds → Outs st p (.io d0 :: args) (d :: ds)
 | sh {p v args ds} : Outs st (p + 1) args ds → Outs st p (.sh v :: args) ds
 | mv {p v args ds} : Outs st (p + 1) args ds → Outs st p (.mv v :: args) ds
def Arg.av (p : Nat) : Arg → AV
 | .sh (.one (.pt false cs)) => .sptr cs 0
 | .sh (.one d) => .c d
 | .sh (.agg ds) => .agg (ds.map AV.c)
 | .mv (.one d) => .own p d
 | .mv (.agg ds) => .agg (ds.map AV.raw)
 | .io d => .own p d
def initSt (args : List Arg) (t : Nat) : AV := match args[t]? with
 | some x => x.av t
 | none => .dead
def heldOf : Nat → List Arg → List Nat
 | _, [] => []
 | p, .io _ :: args => p :: heldOf (p + 1) args
 | p, _ :: args => heldOf (p + 1) args
def V.solid : V → Bool
 | .one d => d.solid
 | .agg ds => D.solids ds
theorem V.rd_solid {F F' : Nat → Prop} {w : World} {v : V} {u : Value} {L0 : List Nat} (h : VR F w v u L0) (hs : v.solid = true) : VR F' w v u L0 := by
 cases v with
 | one d => obtain ⟨r, h⟩ := h; exact ⟨r, RD.solid d r u L0 h hs⟩
 | agg ds => obtain ⟨r, us, e, h⟩ := h; exact ⟨r, us, e, RDs.solid ds 0 r us L0 h hs⟩
theorem VRs.solid {F F' : Nat → Prop} {w : World} : ∀ {vs : List V} {us : List Value} {L0 : List Nat}, VRs F w vs us L0 → vs.all V.solid = true → VRs F' w vs us L0
 | [], _, _, h, _ => by simpa only [VRs] using h
 | v :: vs, us, L0, h, hs => by
  simp only [List.all_cons, Bool.and_eq_true] at hs
  simp only [VRs] at h ⊢
  obtain ⟨u, us', L1, L2, rfl, rfl, h1, h2⟩ := h
  exact ⟨u, us', L1, L2, rfl, rfl, V.rd_solid h1 hs.1, VRs.solid h2 hs.2⟩
theorem OutsR.solid {F F' : Nat → Prop} {w : World} : ∀ {args : List Arg} {us : List Value} {ds : List D} {L0 : List Nat}, OutsR F w args us ds L0 → D.solids ds = true → OutsR F' w args us ds L0
 | [], _, _, _, h, _ => by simpa only [OutsR] using h
 | .io _ :: args, us, ds, L0, h, hs => by
  simp only [OutsR] at h ⊢
  obtain ⟨u, us', d, ds', r, L1, L2, rfl, rfl, rfl, h1, h2⟩ := h
  simp only [D.solids, Bool.and_eq_true] at hs
  exact ⟨u, us', d, ds', r, L1, L2, rfl, rfl, rfl, RD.solid d r u L1 h1 hs.1, OutsR.solid h2 hs.2⟩
 | .sh _ :: args, us, ds, L0, h, hs => by
  simp only [OutsR] at h ⊢
  obtain ⟨u, us', rfl, h⟩ := h
  exact ⟨u, us', rfl, OutsR.solid h hs⟩
 | .mv _ :: args, us, ds, L0, h, hs => by
  simp only [OutsR] at h ⊢
  obtain ⟨u, us', rfl, h⟩ := h
  exact ⟨u, us', rfl, OutsR.solid h hs⟩
def readRes (tmps : Array Value) : ResultVar → Sem Value
 | .tmp t => pure (tmps.getD t undef)
 | .cell a t => do loadVar t (← asAddr (tmps.getD a undef))
theorem RepM.ress {f : Fr} {X : Nat → Prop} {a : Act} {w : World} {ρ : Nat → Rho} : ∀ {s s' : Nat → AV} {L : Nat → List Nat} {M : List Nat} {rvs : List ResultVar} {vs : List V}, RepM f X s a w ρ L M → Ress P s rvs vs s' →
  ∃ L' M1 us, RepM f X s' a w ρ L' (M ++ M1) ∧ (rvs.mapM (readRes a.tmps)).run P w = .ok us w ∧ VRs f.F w vs us M1
 | s, _, L, M, _, _, h, .nil => ⟨L, [], [], by simpa using h, by simp, by simp [VRs]⟩
 | s, _, L, M, _, _, h, .one (t := t) h1 h2 => by
  obtain ⟨r, L1, M1, hm, hv⟩ := h.give h1
  obtain ⟨L2, M2, us, hm2, hr, hv2⟩ := RepM.ress hm h2
  refine ⟨L2, M1 ++ M2, a.eval (.tmp t) :: us, by rw [← List.append_assoc]; exact hm2, ?_, ?_⟩
  ·simp only [List.mapM_cons, Sem.run_bind, readRes, Sem.run_pure, Result.andThen_ok, hr]
   rfl
  ·simp only [VRs]; exact ⟨_, us, M1, M2, rfl, rfl, ⟨r, hv⟩, hv2⟩
 | s, _, L, M, _, _, h, .agg (t := t) (l := l) (ds := ds) h1 h3 h2 => by
  have ht := h.rep.slots t
  rw [h1] at ht
  simp only [SR] at ht
  obtain ⟨vs, e0, hv⟩ := ht
  obtain ⟨r, hv⟩ := hv.dats l ds 0 vs (L t) h3
  have hm1 := h.detach t .dead [] (L t) (by simp only [SR]) (by simp [AV.ids]) (fun g hg => by simpa using hg) List.nodup_nil (h.rep.nodup t) (by simp)
  obtain ⟨L2, M2, us, hm2, hr, hv2⟩ := RepM.ress hm1 h2
  refine ⟨L2, L t ++ M2, tmp a t :: us, by rw [← List.append_assoc]; exact hm2, ?_, ?_⟩
  ·simp only [List.mapM_cons, Sem.run_bind, readRes, Sem.run_pure, Result.andThen_ok, hr]
   rfl
  ·simp only [VRs]; exact ⟨_, us, L t, M2, rfl, rfl, ⟨r, vs, e0, hv⟩, hv2⟩
 | s, _, L, M, _, _, h, .cell (t := t) (T := T) (sz := sz) (ds := ds) hT h1 h3 h2 => by
  have ht := h.rep.slots t
  rw [h1] at ht
  simp only [SR, RD] at ht
  obtain ⟨_, g, us0, L1, ty, e0, eL, hb, hv⟩ := ht
  have hnd := h.rep.nodup t
  rw [eL, List.nodup_cons] at hnd
  have hm1 := h.detach t .dead [] L1 (by simp only [SR]) (by simp [AV.ids]) (fun g' hg => by rw [eL]; simp at hg; simp [hg]) List.nodup_nil hnd.2 (by simp)
  obtain ⟨L2, M2, us, hm2, hr, hv2⟩ := RepM.ress hm1 h2
  refine ⟨L2, L1 ++ M2, .agg us0.toArray :: us, by rw [← List.append_assoc]; exact hm2, ?_, ?_⟩
  ·have hl := run_load_struct (P := P) (T := T) w ⟨g, 0, none⟩ us0 (by rw [hv.length, h3]) (fun j u hu => by rw [addr_row, cell_of_row w g j us0.toArray ty (0, 0) hb]; simpa using hu)
   simp only [Instr.loadAt, Instr.sureAddr, Sem.run_bind, Sem.run_pure, Result.andThen_ok] at hl
   have e1 : a.tmps.getD t undef = _ := e0
   simp only [List.mapM_cons, Sem.run_bind, readRes, e1, asAddr, Sem.run_pure, Result.andThen_ok, hl, hr]
  ·simp only [VRs]; exact ⟨_, us, L1, M2, rfl, rfl, ⟨_, us0, rfl, hv⟩, hv2⟩
 | s, _, L, M, _, _, h, .cell1 (t := t) (T := T) (d := d) hT h1 h2 => by
  have ht := h.rep.slots t
  rw [h1] at ht
  simp only [SR, RD] at ht
  obtain ⟨_, g, us0, L1, ty, e0, eL, hb, hv⟩ := ht
  simp only [RDs] at hv
  obtain ⟨u, us1, A, B, rfl, rfl, hv, rfl, rfl⟩ := hv
  rw [List.append_nil] at eL
  have hnd := h.rep.nodup t
  rw [eL, List.nodup_cons] at hnd
  have hm1 := h.detach t .dead [] A (by simp only [SR]) (by simp [AV.ids]) (fun g' hg => by rw [eL]; simp at hg; simp [hg]) List.nodup_nil hnd.2 (by simp)
  obtain ⟨L2, M2, us, hm2, hr, hv2⟩ := RepM.ress hm1 h2
  refine ⟨L2, A ++ M2, u :: us, by rw [← List.append_assoc]; exact hm2, ?_, ?_⟩
  ·have hl := run_load_one (P := P) (T := T) w ⟨g, 0, none⟩ u (by rw [cell_of_row w g 0 _ ty (0, 0) hb]; simp)
   simp only [Instr.loadAt, Instr.sureAddr, Sem.run_bind, Sem.run_pure, Result.andThen_ok] at hl
   have e1 : a.tmps.getD t undef = _ := e0
   simp only [List.mapM_cons, Sem.run_bind, readRes, e1, asAddr, Sem.run_pure, Result.andThen_ok, hl, hr]
  ·simp only [VRs]; exact ⟨_, us, A, M2, rfl, rfl, ⟨_, hv⟩, hv2⟩
theorem run_results {fn : Func} {tmps : Array Value} {w : World} {us : List Value} (h : (fn.results.toList.mapM (readRes tmps)).run P w = .ok us w) : (results fn tmps).run P w = .ok (retVal us) w := by
 have e : results fn tmps = (do
   let vs ← fn.results.mapM (readRes tmps)
   pure (if h : vs.size = 1 then vs[0] else .tuple vs)) := by
  unfold results
  congr 2
 rw [e, Sem.run_bind, Array.mapM_eq_mapM_toList]
 simp only [Sem.run_map, h, Result.andThen_ok, Sem.run_pure]
 match us with
 | [] => rfl
 | [u] => rfl
 | u1 :: u2 :: us => simp [retVal]
theorem RepM.outs {f : Fr} {X : Nat → Prop} {a : Act} {w : World} {ρ : Nat → Rho} {L : Nat → List Nat} {M : List Nat} {s : Nat → AV} (h : RepM f X s a w ρ L M) : ∀ {args : List Arg} {p : Nat} {ds : List D} {us : List Value}, Outs s p args ds → us.length = args.length → (∀ j, p + j ∈ heldOf p args → us[j]? = some (tmp a (p + j))) →
  ∃ Lo, OutsR f.F w args us ds Lo ∧ Lo.Nodup ∧ ∀ g ∈ Lo, ∃ q, p ≤ q ∧ g ∈ L q
 | _, p, _, us, .nil, _, _ => ⟨[], by simp [OutsR], List.nodup_nil, by simp⟩
 | _, p, _, us, .io (id := id) (d := d) (args := args) h1 h2, hl, hh => by
  match us, hl with
  | u :: us, hl =>
   obtain ⟨Lo, e1, e2, e3⟩ := RepM.outs h (us := us) h2 (by simpa using hl) (fun j hj => by
    have := hh (j + 1) (by simp only [heldOf, List.mem_cons]; right; rw [show p + (j + 1) = p + 1 + j from by omega]; exact hj)
    simpa [show p + (j + 1) = p + 1 + j from by omega] using this)
   have hu := hh 0 (by simp [heldOf])
   simp only [List.getElem?_cons_zero, Option.some.injEq, Nat.add_zero] at hu
   have hv := h.rep.slots p
   rw [h1] at hv
   simp only [SR] at hv
   refine ⟨L p ++ Lo, ?_, ?_, ?_⟩
   ·simp only [OutsR]
    exact ⟨u, us, d, _, _, L p, Lo, rfl, rfl, rfl, by rw [hu]; exact hv, e1⟩
   ·rw [List.nodup_append]
    refine ⟨h.rep.nodup p, e2, fun g hg g' hg' e => ?_⟩
    subst e
    obtain ⟨q, hq, hgq⟩ := e3 g hg'
    exact h.rep.disj p q (by omega) g hg hgq
   ·intro g hg
    rw [List.mem_append] at hg
    rcases hg with hg | hg
    ·exact ⟨p, Nat.le_refl _, hg⟩
    ·obtain ⟨q, hq, hgq⟩ := e3 g hg; exact ⟨q, by omega, hgq⟩
 | _, p, _, us, .sh h2, hl, hh => by
  match us, hl with
  | u :: us, hl =>
   obtain ⟨Lo, e1, e2, e3⟩ := RepM.outs h (us := us) h2 (by simpa using hl) (fun j hj => by
    have := hh (j + 1) (by simp only [heldOf]; rw [show p + (j + 1) = p + 1 + j from by omega]; exact hj)
    simpa [show p + (j + 1) = p + 1 + j from by omega] using this)
   exact ⟨Lo, by simp only [OutsR]; exact ⟨u, us, rfl, e1⟩, e2, fun g hg => let ⟨q, hq, hgq⟩ := e3 g hg; ⟨q, by omega, hgq⟩⟩
 | _, p, _, us, .mv h2, hl, hh => by
  match us, hl with
  | u :: us, hl =>
   obtain ⟨Lo, e1, e2, e3⟩ := RepM.outs h (us := us) h2 (by simpa using hl) (fun j hj => by
    have := hh (j + 1) (by simp only [heldOf]; rw [show p + (j + 1) = p + 1 + j from by omega]; exact hj)
    simpa [show p + (j + 1) = p + 1 + j from by omega] using this)
   exact ⟨Lo, by simp only [OutsR]; exact ⟨u, us, rfl, e1⟩, e2, fun g hg => let ⟨q, hq, hgq⟩ := e3 g hg; ⟨q, by omega, hgq⟩⟩
theorem ArgsR.split {F : Nat → Prop} {w : World} : ∀ {args : List Arg} {us : List Value} {M : List Nat}, ArgsR F w args us M → ∃ Ls : List (List Nat), us.length = args.length ∧ Ls.length = args.length ∧ M = Ls.flatten ∧ ∀ (j : Nat) (x : Arg) (u : Value) (Lj : List Nat), args[j]? = some x → us[j]? = some u → Ls[j]? = some Lj → ArgR F w x u Lj
 | [], us, M, h => by
  simp only [ArgsR] at h
  obtain ⟨rfl, rfl⟩ := h
  exact ⟨[], rfl, rfl, rfl, by simp⟩
 | x :: args, us, M, h => by
  simp only [ArgsR] at h
  obtain ⟨u, us', L1, L2, rfl, rfl, h1, h2⟩ := h
  obtain ⟨Ls, e1, e2, rfl, e4⟩ := ArgsR.split h2
  refine ⟨L1 :: Ls, by simp [e1], by simp [e2], by simp, fun j x' u' Lj hx hu hL => ?_⟩
  cases j with
  | zero => simp only [List.getElem?_cons_zero, Option.some.injEq] at hx hu hL; subst hx hu hL; exact h1
  | succ j => simp only [List.getElem?_cons_succ] at hx hu hL; exact e4 j x' u' Lj hx hu hL
theorem ArgR.sr {F : Nat → Prop} {w : World} {x : Arg} {u : Value} {L0 : List Nat} (h : ArgR F w x u L0) (p : Nat) : ∃ r : Rho, ∀ ρ : Nat → Rho, ρ p = r → SR F w ρ (x.av p) u L0 := by
 cases x with
 | sh v =>
  obtain ⟨rfl, h⟩ := h
  cases v with
  | one d =>
   obtain ⟨r, h⟩ := h
   refine ⟨r, fun ρ _ => ?_⟩
   unfold Arg.av
   split
   ·rename_i cs heq
    obtain rfl : d = .pt false cs := by injection heq with e; injection e
    simp only [RD] at h
    obtain ⟨_, b, us, e1, e2, e3, e4⟩ := h
    simp only [SR]
    exact ⟨trivial, b, us, r, by rw [add_zero']; exact e1, e2, e3, e4⟩
   ·rename_i hne heq
    injection heq with e
    injection e with e
    subst e
    simp only [SR]; exact ⟨trivial, r, h⟩
   all_goals (rename_i heq; first | injection heq with e; injection e | injection heq)
  | agg ds => obtain ⟨r, us, e, h⟩ := h; exact ⟨r, fun ρ _ => by simp only [Arg.av, SR]; exact ⟨us, e, SRs_of_RDs ds 0 r us h⟩⟩
 | mv v =>
  cases v with
  | one d => obtain ⟨r, h⟩ := h; exact ⟨r, fun ρ e => by simp only [Arg.av, SR]; rw [e]; exact h⟩
  | agg ds => obtain ⟨r, us, e, h⟩ := h; exact ⟨r, fun ρ _ => by simp only [Arg.av, SR]; exact ⟨us, e, SRs_raws ds 0 r us L0 h⟩⟩
 | io d => obtain ⟨r, h⟩ := h; exact ⟨r, fun ρ e => by simp only [Arg.av, SR]; rw [e]; exact h⟩
theorem Arg.av_ids (x : Arg) (p : Nat) : ∀ i ∈ (x.av p).ids, i = p := by
 cases x with
 | sh v =>
  cases v with
  | one d => unfold Arg.av; split <;> simp_all [AV.ids, idss_map_c]
  | agg ds => simp [Arg.av, AV.ids, idss_map_c, -List.map_eq_nil_iff]
 | mv v => cases v <;> simp [Arg.av, AV.ids, idss_raws, -List.map_eq_nil_iff]
 | io d => simp [Arg.av, AV.ids]
theorem heldOf_lt : ∀ (args : List Arg) (p q : Nat), q ∈ heldOf p args → p ≤ q ∧ q < p + args.length
 | [], p, q, h => by simp [heldOf] at h
 | .io _ :: args, p, q, h => by
  simp only [heldOf, List.mem_cons] at h
  rcases h with rfl | h
  ·simp
  ·have := heldOf_lt args (p + 1) q h; simp; omega
 | .sh _ :: args, p, q, h => by
  simp only [heldOf] at h
  have := heldOf_lt args (p + 1) q h; simp; omega
 | .mv _ :: args, p, q, h => by
  simp only [heldOf] at h
  have := heldOf_lt args (p + 1) q h; simp; omega
theorem callZ_of {Z : (Nat → Prop) → World → Prop} {own : Bool} {K : FuncId} {fn : Func} {c : Code} {args : List Arg} {rs : List V} {outs : List D} (hf : P.funcs[K]? = some fn) (hb : fn.body = some c) (hn : ∀ d, n d = true → d < fn.ntmps) (hheld : ∀ p ∈ heldOf 0 args, n p = false) (hnK : n.K = []) (hnR : ∀ F w, Z F w → ∀ q ∈ n.R, q.1 = tabId ∧ TabAt F w q) (hnS : (n.S = [] ∧ own = true) ∨ n.S = mark0)
  (hs : own = true → rs.all V.solid = true ∧ D.solids outs = true)
  (h : WpA P n c (initSt args) args.length (fun e s _ => (e = .normal ∨ e = .ret) ∧ ∃ s', Ress P s fn.results.toList rs s' ∧ Outs s' 0 args outs)) : CallZ Z own P K args rs outs := by
 intro w vs M F hZ hF hargs hnd hM
 obtain ⟨Ls, e1, e2, eM, e4⟩ := hargs.split
 refine calls_of_wp hf hb ?_
 have htmp : ∀ t, tmp { tmps := vs.toArray ++ Array.replicate (fn.ntmps - vs.toArray.size) undef, defers := [] } t = vs.getD t undef := by
  intro t
  unfold tmp
  simp only [Array.getD_eq_getD_getElem?, List.getD_eq_getElem?_getD, Array.getElem?_append, List.size_toArray, List.getElem?_toArray, Array.getElem?_replicate]
  by_cases ht : t < vs.length
  ·simp [ht]
  ·simp only [ht, if_false]
   rw [List.getElem?_eq_none (by omega)]
   split <;> rfl
 have hSS : ∀ q ∈ n.S, ShRow F w q.1 1 (q.2.map (.int .i64)) := fun q hq => by
  rcases hnS with h | h
  ·rw [h.1] at hq; exact (List.not_mem_nil hq).elim
  ·rw [h, mark0, List.mem_singleton] at hq
   subst hq
   exact ⟨none, 0, 0, rfl, rfl, Nat.le_refl _, Nat.zero_le _, fun h => absurd rfl h⟩
 let f : Fr := { w0 := w, M := M, N := n, H := (heldOf 0 args).map fun q => (q, vs.getD q undef), F := F, hF := hF, hK := by rw [hnK]; exact fun _ h => (List.not_mem_nil h).elim, hR := fun q hq => ⟨fun hne => absurd (hnR F w hZ q hq).1 hne, fun _ => (hnR F w hZ q hq).2⟩, hS := hSS }
 have hL : ∀ t, (Ls.getD t []).Nodup ∧ ∀ g ∈ Ls.getD t [], g ∈ M := by
  intro t
  rw [List.getD_eq_getElem?_getD]
  cases ht : Ls[t]? with
  | none => simp
  | some Lt =>
   have hm := List.mem_of_getElem? ht
   rw [eM] at hnd ⊢
   unfold List.Nodup at hnd
   rw [List.pairwise_flatten] at hnd
   exact ⟨hnd.1 Lt hm, fun g hg => List.mem_flatten.2 ⟨Lt, hm, hg⟩⟩
 have hch : ∀ t, ∃ r : Rho, ∀ ρ : Nat → Rho, ρ t = r → SR F w ρ (initSt args t) (vs.getD t undef) (Ls.getD t []) := by
  intro t
  unfold initSt
  cases ht : args[t]? with
  | none =>
   have hlt : args.length ≤ t := by simpa using ht
   refine ⟨fun _ => undef, fun ρ _ => ?_⟩
   rw [List.getD_eq_getElem?_getD (l := Ls), List.getElem?_eq_none (by omega)]
   simp only [SR, Option.getD_none]
  | some x =>
   have hlt : t < args.length := (List.getElem?_eq_some_iff.1 ht).1
   have hu : vs[t]? = some (vs[t]'(by omega)) := List.getElem?_eq_getElem _
   have hl : Ls[t]? = some (Ls[t]'(by omega)) := List.getElem?_eq_getElem _
   have := (e4 t x _ _ ht hu hl).sr t
   rw [List.getD_eq_getElem?_getD, List.getD_eq_getElem?_getD, hu, hl]
   exact this
 obtain ⟨ρ, hρ⟩ := Classical.axiomOfChoice hch
 have hrep : Rep f (fun i => i < args.length) (initSt args) { tmps := vs.toArray ++ Array.replicate (fn.ntmps - vs.toArray.size) undef, defers := [] } w := by
  refine ⟨ρ, fun t => Ls.getD t [], rfl, fun d hd => ?_, fun q hq => ?_, ⟨rfl, rfl, rfl, Nat.le_refl _, fun _ _ _ => rfl, fun _ => Nat.le_refl _⟩, fun t => ?_, fun t => (hL t).1, fun t u htu g hg hgu => ?_, fun t g hg => ?_, fun t i hi => ?_, fun t g hg => .inl ((hL t).2 g hg), fun q hq => by cases hq⟩
  ·have := hn d hd
   simp
   omega
  ·obtain ⟨p, hp, rfl⟩ := List.mem_map.1 hq
   exact ⟨hheld p hp, htmp p⟩
  ·rw [htmp t]; exact hρ t ρ rfl
  ·unfold List.Nodup at hnd
   rw [eM, List.pairwise_flatten] at hnd
   rw [List.getD_eq_getElem?_getD] at hg hgu
   cases ht : Ls[t]? with
   | none => simp [ht] at hg
   | some Lt =>
    cases hu : Ls[u]? with
    | none => simp [hu] at hgu
    | some Lu =>
     simp only [ht, hu, Option.getD_some] at hg hgu
     obtain ⟨h1, h2⟩ := List.getElem?_eq_some_iff.1 ht
     obtain ⟨h3, h4⟩ := List.getElem?_eq_some_iff.1 hu
     rcases Nat.lt_or_ge t u with hlt | hge
     ·have := List.pairwise_iff_getElem.1 hnd.2 t u h1 h3 hlt
      rw [h2, h4] at this
      exact this g hg g hgu rfl
     ·have := List.pairwise_iff_getElem.1 hnd.2 u t h3 h1 (by omega)
      rw [h2, h4] at this
      exact this g hgu g hg rfl
  ·have hm := (hL t).2 g hg
   exact ⟨hM g hm, fun hf => (hF g hf).2 hm⟩
  ·unfold initSt at hi
   cases ht : args[t]? with
   | none => simp [ht, AV.ids] at hi
   | some x =>
    simp only [ht] at hi
    rw [Arg.av_ids x t i hi]
    exact (List.getElem?_eq_some_iff.1 ht).1
 refine Code.wp_mono (fun e a' w' hq => ?_) (h f _ w rfl (.of hrep))
 obtain ⟨s1, nx', ⟨he, s', hres, houts⟩, ⟨f', kf, ρ', L', hr⟩⟩ := hq
 have hmine : ∀ g, (g ∈ f'.M ∨ f'.w0.heap.size ≤ g) → g ∈ M ∨ w.heap.size ≤ g := fun g hg => by
  rcases hg with h1 | h1
  ·exact kf.M g h1
  ·exact .inr (Nat.le_trans kf.keep.size h1)
 have fin : bodyPost P fn (fun e w' => ∃ us Lr Lo, e = .returned (retVal us) ∧ Keep w M w' ∧ VRs (Res own F) w' rs us Lr ∧ OutsR (Res own F) w' args vs outs Lo ∧ (Lr ++ Lo).Nodup ∧ ∀ g ∈ Lr ++ Lo, g < w'.heap.size ∧ (g ∈ M ∨ w.heap.size ≤ g)) .ret a' w' := by
  obtain ⟨L2, M1, us, hm, hrun, hv⟩ := hr.toM.ress hres
  rw [List.nil_append] at hm
  obtain ⟨Lo, o1, o2, o3⟩ := hm.outs (us := vs) houts e1 (fun j hj => by
   rw [Nat.zero_add] at hj ⊢
   have h1 := (hr.hold (j, vs.getD j undef) (by rw [kf.H]; exact List.mem_map.2 ⟨j, hj, rfl⟩)).2
   have hlt := (heldOf_lt args 0 j hj).2
   rw [h1, List.getD_eq_getElem?_getD, List.getElem?_eq_getElem (by omega)]
   rfl)
  have hF' : own = false → f'.F = F := fun ho => by
   rcases hnS with h | h
   ·rw [h.2] at ho; cases ho
   ·have : f' = f := kf.still (by show n.S ≠ []; rw [h]; simp [mark0])
    rw [this]
  refine ⟨hr.defers, retVal us, run_results hrun, us, M1, Lo, rfl, kf.keep.trans hr.keep (fun g hg hlt => by
   rcases hmine g (.inl hg) with h1 | h1
   ·exact h1
   ·have : f.w0 = w := rfl
    rw [this] at hlt
    omega), ?_, ?_, ?_, ?_⟩
  ·cases hown : own with
   | true => exact hv.solid (hs hown).1
   | false => exact hv.same (fun g hg => ⟨rfl, by rw [← hF' hown]; exact hg⟩) (fun _ _ => rfl) (fun _ _ => rfl)
  ·cases hown : own with
   | true => exact o1.solid (hs hown).2
   | false =>
    have : Res false F = F := by funext g; simp [Res]
    rw [this, ← hF' hown]; exact o1
  ·rw [List.nodup_append]
   refine ⟨hm.nd, o2, fun g hg g' hg' e => ?_⟩
   subst e
   obtain ⟨q, _, hgq⟩ := o3 g hg'
   exact hm.disj q g hgq hg
  ·intro g hg
   rw [List.mem_append] at hg
   rcases hg with hg | hg
   ·exact ⟨(hm.bound g hg).1, hmine g (hm.mine g hg)⟩
   ·obtain ⟨q, _, hgq⟩ := o3 g hg
    exact ⟨(hm.rep.bound q g hgq).1, hmine g (hm.rep.mine q g hgq)⟩
 rcases he with rfl | rfl
 ·exact fin
 ·exact fin
theorem callG_of {own : Bool} {K : FuncId} {fn : Func} {c : Code} {args : List Arg} {rs : List V} {outs : List D} (hf : P.funcs[K]? = some fn) (hb : fn.body = some c) (hn : ∀ d, n d = true → d < fn.ntmps) (hheld : ∀ p ∈ heldOf 0 args, n p = false) (hnK : n.K = []) (hnR : n.R = []) (hnS : (n.S = [] ∧ own = true) ∨ n.S = mark0)
  (hs : own = true → rs.all V.solid = true ∧ D.solids outs = true)
  (h : WpA P n c (initSt args) args.length (fun e s _ => (e = .normal ∨ e = .ret) ∧ ∃ s', Ress P s fn.results.toList rs s' ∧ Outs s' 0 args outs)) : CallG own P K args rs outs := fun w vs M F hF => callZ_of (Z := fun _ _ => True) hf hb hn hheld hnK (fun _ _ _ q hq => by rw [hnR] at hq; exact (List.not_mem_nil hq).elim) hnS hs h w vs M F trivial hF
end
end Go.Pv
namespace Go.Pv
open Go.RowKit
section
variable {P : Program} {n : NN} {nid : Nat} {st : Nat → AV}
def fits (x : Int) : Prop := -9223372036854775808 ≤ x ∧ x ≤ 9223372036854775807
theorem wrap_fits {x : Int} (h : fits x) : IntKind.i64.wrap x = x := by
 unfold fits at h
 rw [IntKind.wrap_i64]; omega
theorem step_bin {d : Nat} {op : BinOp} {T T' : TypeId} {x y : Operand} {u v r : Value} {ty pos aft g} (hx : Lit st x u) (hy : Lit st y v) (hr : r.oneCell' = true)
  (h : ∀ w : World, (do eqGuard op T x y u v; binOp op T u v : Sem Value).run P w = .ok r w) (hd : n d = true) :
  Step P n ⟨some d, .binOp op T x y T', ty, pos, aft, g⟩ nid st (rdOf x ++ rdOf y) [(d, .c (.lit r))] := by
 have := step_pure (P := P) (n := n) (nid := nid) (st := st) (o := ⟨some d, .binOp op T x y T', ty, pos, aft, g⟩) (d := d) (u := r) [(x, u), (y, v)] rfl hd hr (by simpa using ⟨hx, hy⟩) (fun ev w hev => by
  have e1 := hev (x, u) (by simp)
  have e2 := hev (y, v) (by simp)
  simp only at e1 e2
  have := h w
  simp only [execOp, e1, e2, Sem.run_bind] at this ⊢
  rw [this]
  rfl)
 simpa using this
theorem eqGuard_int (op : BinOp) (T : TypeId) (x y : Operand) (k k' : IntKind) (a b : Int) (w : World) : (eqGuard op T x y (.int k a) (.int k' b)).run P w = .ok () w := by
 unfold eqGuard
 cases op <;> simp
theorem eqGuard_bool (op : BinOp) (T : TypeId) (x y : Operand) (a b : Bool) (w : World) : (eqGuard op T x y (.bool a) (.bool b)).run P w = .ok () w := by
 unfold eqGuard
 cases op <;> simp
section ints
variable {d : Nat} {T T' : TypeId} {x y : Operand} {k : IntKind} {a b : Int} {ty : TypeId} {pos : String} {aft : Array Edge} {g : Option (Nat × Bool)}
theorem step_add (hx : Lit st x (.int k a)) (hy : Lit st y (.int k b)) (hd : n d = true) : Step P n ⟨some d, .binOp .add T x y T', ty, pos, aft, g⟩ nid st (rdOf x ++ rdOf y) [(d, .c (.lit (.int k (k.wrap (a + b)))))] :=
 step_bin hx hy rfl (fun w => by simp [eqGuard_int, binOp, Op.intArith]) hd
theorem step_sub (hx : Lit st x (.int k a)) (hy : Lit st y (.int k b)) (hd : n d = true) : Step P n ⟨some d, .binOp .sub T x y T', ty, pos, aft, g⟩ nid st (rdOf x ++ rdOf y) [(d, .c (.lit (.int k (k.wrap (a - b)))))] :=
 step_bin hx hy rfl (fun w => by simp [eqGuard_int, binOp, Op.intArith]) hd
theorem step_mul (hx : Lit st x (.int k a)) (hy : Lit st y (.int k b)) (hd : n d = true) : Step P n ⟨some d, .binOp .mul T x y T', ty, pos, aft, g⟩ nid st (rdOf x ++ rdOf y) [(d, .c (.lit (.int k (k.wrap (a * b)))))] :=
 step_bin hx hy rfl (fun w => by simp [eqGuard_int, binOp, Op.intArith]) hd
theorem step_quo (hx : Lit st x (.int k a)) (hy : Lit st y (.int k b)) (hb : b ≠ 0) (hd : n d = true) : Step P n ⟨some d, .binOp .quo T x y T', ty, pos, aft, g⟩ nid st (rdOf x ++ rdOf y) [(d, .c (.lit (.int k (k.wrap (a.tdiv b)))))] :=
 step_bin hx hy rfl (fun w => by simp [eqGuard_int, binOp, Op.intDiv, hb]) hd
theorem step_rem (hx : Lit st x (.int k a)) (hy : Lit st y (.int k b)) (hb : b ≠ 0) (hd : n d = true) : Step P n ⟨some d, .binOp .rem T x y T', ty, pos, aft, g⟩ nid st (rdOf x ++ rdOf y) [(d, .c (.lit (.int k (a.tmod b))))] :=
 step_bin hx hy rfl (fun w => by simp [eqGuard_int, binOp, Op.intDiv, hb]) hd
theorem step_add_in (hx : Lit st x (.int .i64 a)) (hy : Lit st y (.int .i64 b)) (h : fits (a + b)) (hd : n d = true) : Step P n ⟨some d, .binOp .add T x y T', ty, pos, aft, g⟩ nid st (rdOf x ++ rdOf y) [(d, .c (.lit (.int .i64 (a + b))))] := by
 have := step_add (P := P) (n := n) (nid := nid) (T := T) (T' := T') (ty := ty) (pos := pos) (aft := aft) (g := g) hx hy hd
 rwa [wrap_fits h] at this
theorem step_sub_in (hx : Lit st x (.int .i64 a)) (hy : Lit st y (.int .i64 b)) (h : fits (a - b)) (hd : n d = true) : Step P n ⟨some d, .binOp .sub T x y T', ty, pos, aft, g⟩ nid st (rdOf x ++ rdOf y) [(d, .c (.lit (.int .i64 (a - b))))] := by
 have := step_sub (P := P) (n := n) (nid := nid) (T := T) (T' := T') (ty := ty) (pos := pos) (aft := aft) (g := g) hx hy hd
 rwa [wrap_fits h] at this
theorem step_mul_in (hx : Lit st x (.int .i64 a)) (hy : Lit st y (.int .i64 b)) (h : fits (a * b)) (hd : n d = true) : Step P n ⟨some d, .binOp .mul T x y T', ty, pos, aft, g⟩ nid st (rdOf x ++ rdOf y) [(d, .c (.lit (.int .i64 (a * b))))] := by
 have := step_mul (P := P) (n := n) (nid := nid) (T := T) (T' := T') (ty := ty) (pos := pos) (aft := aft) (g := g) hx hy hd
 rwa [wrap_fits h] at this
theorem step_quo_in (hx : Lit st x (.int .i64 a)) (hy : Lit st y (.int .i64 b)) (ha : 0 ≤ a) (ha' : a ≤ 9223372036854775807) (hb : 0 < b) (hd : n d = true) : Step P n ⟨some d, .binOp .quo T x y T', ty, pos, aft, g⟩ nid st (rdOf x ++ rdOf y) [(d, .c (.lit (.int .i64 (a / b))))] := by
 have := step_quo (P := P) (n := n) (nid := nid) (T := T) (T' := T') (ty := ty) (pos := pos) (aft := aft) (g := g) hx hy (by omega) hd
 rw [Int.tdiv_eq_ediv_of_nonneg ha, wrap_fits ⟨by have := Int.ediv_nonneg ha (Int.le_of_lt hb); omega, by have := Int.ediv_le_self b ha; omega⟩] at this
 exact this
theorem step_rem_in (hx : Lit st x (.int k a)) (hy : Lit st y (.int k b)) (ha : 0 ≤ a) (hb : 0 < b) (hd : n d = true) : Step P n ⟨some d, .binOp .rem T x y T', ty, pos, aft, g⟩ nid st (rdOf x ++ rdOf y) [(d, .c (.lit (.int k (a % b))))] := by
 have := step_rem (P := P) (n := n) (nid := nid) (T := T) (T' := T') (ty := ty) (pos := pos) (aft := aft) (g := g) hx hy (by omega) hd
 rw [Int.tmod_eq_emod_of_nonneg ha] at this
 exact this
theorem step_eql (hx : Lit st x (.int k a)) (hy : Lit st y (.int k b)) (hd : n d = true) : Step P n ⟨some d, .binOp .eql T x y T', ty, pos, aft, g⟩ nid st (rdOf x ++ rdOf y) [(d, .c (.lit (.bool (decide (a = b)))))] :=
 step_bin hx hy rfl (fun w => by simp [eqGuard_int, binOp, Op.intCmp]; rfl) hd
theorem step_neq (hx : Lit st x (.int k a)) (hy : Lit st y (.int k b)) (hd : n d = true) : Step P n ⟨some d, .binOp .neq T x y T', ty, pos, aft, g⟩ nid st (rdOf x ++ rdOf y) [(d, .c (.lit (.bool (decide (a ≠ b)))))] :=
 step_bin hx hy rfl (fun w => by simp [eqGuard_int, binOp, Op.intCmp, bne]; rfl) hd
theorem step_lss (hx : Lit st x (.int k a)) (hy : Lit st y (.int k b)) (hd : n d = true) : Step P n ⟨some d, .binOp .lss T x y T', ty, pos, aft, g⟩ nid st (rdOf x ++ rdOf y) [(d, .c (.lit (.bool (decide (a < b)))))] :=
 step_bin hx hy rfl (fun w => by simp [eqGuard_int, binOp, Op.intCmp]) hd
theorem step_leq (hx : Lit st x (.int k a)) (hy : Lit st y (.int k b)) (hd : n d = true) : Step P n ⟨some d, .binOp .leq T x y T', ty, pos, aft, g⟩ nid st (rdOf x ++ rdOf y) [(d, .c (.lit (.bool (decide (a ≤ b)))))] :=
 step_bin hx hy rfl (fun w => by simp [eqGuard_int, binOp, Op.intCmp]) hd
theorem step_gtr (hx : Lit st x (.int k a)) (hy : Lit st y (.int k b)) (hd : n d = true) : Step P n ⟨some d, .binOp .gtr T x y T', ty, pos, aft, g⟩ nid st (rdOf x ++ rdOf y) [(d, .c (.lit (.bool (decide (b < a)))))] :=
 step_bin hx hy rfl (fun w => by simp [eqGuard_int, binOp, Op.intCmp]) hd
theorem step_geq (hx : Lit st x (.int k a)) (hy : Lit st y (.int k b)) (hd : n d = true) : Step P n ⟨some d, .binOp .geq T x y T', ty, pos, aft, g⟩ nid st (rdOf x ++ rdOf y) [(d, .c (.lit (.bool (decide (b ≤ a)))))] :=
 step_bin hx hy rfl (fun w => by simp [eqGuard_int, binOp, Op.intCmp]) hd
class IntTy (P : Program) (T : TypeId) (k : outParam IntKind) : Prop where
 out : P.underlying T = some (.int k)
theorem step_convert {S : TypeId} [hT : IntTy P T k] {k0 k1 : IntKind} [hS : IntTy P S k1] (hx : Lit st x (.int k0 a)) (hd : n d = true) : Step P n ⟨some d, .convert S T x, ty, pos, aft, g⟩ nid st (rdOf x) [(d, .c (.lit (.int k (k.wrap a))))] := by
 have := step_pure (P := P) (n := n) (nid := nid) (st := st) (o := ⟨some d, .convert S T x, ty, pos, aft, g⟩) (d := d) (u := .int k (k.wrap a)) [(x, .int k0 a)] rfl hd rfl (by simpa using hx) (fun ev w hev => by
  have e1 := hev (x, .int k0 a) (by simp)
  simp only at e1
  simp [execOp, e1, convert, run_underlying hS.out, run_underlying hT.out, Conv.intToInt])
 simpa using this
theorem step_convert_in {S : TypeId} [hT : IntTy P T .i64] {k0 k1 : IntKind} [hS : IntTy P S k1] (hx : Lit st x (.int k0 a)) (h : fits a) (hd : n d = true) : Step P n ⟨some d, .convert S T x, ty, pos, aft, g⟩ nid st (rdOf x) [(d, .c (.lit (.int .i64 a)))] := by
 have := step_convert (P := P) (n := n) (nid := nid) (S := S) (T := T) (ty := ty) (pos := pos) (aft := aft) (g := g) hx hd
 rwa [wrap_fits h] at this
theorem step_neg (hx : Lit st x (.int k a)) (hd : n d = true) : Step P n ⟨some d, .unOp .neg T x, ty, pos, aft, g⟩ nid st (rdOf x) [(d, .c (.lit (.int k (k.wrap (0 - a)))))] := by
 have := step_pure (P := P) (n := n) (nid := nid) (st := st) (o := ⟨some d, .unOp .neg T x, ty, pos, aft, g⟩) (d := d) (u := .int k (k.wrap (0 - a))) [(x, .int k a)] rfl hd rfl (by simpa using hx) (fun ev w hev => by
  have e1 := hev (x, .int k a) (by simp)
  simp only at e1
  simp [execOp, e1, Op.unary, Op.intArith])
 simpa using this
theorem step_neg_in (hx : Lit st x (.int .i64 a)) (h : fits (-a)) (hd : n d = true) : Step P n ⟨some d, .unOp .neg T x, ty, pos, aft, g⟩ nid st (rdOf x) [(d, .c (.lit (.int .i64 (-a))))] := by
 have := step_neg (P := P) (n := n) (nid := nid) (T := T) (ty := ty) (pos := pos) (aft := aft) (g := g) hx hd
 rwa [Int.zero_sub, wrap_fits h] at this
end ints
section bools
variable {d : Nat} {T T' : TypeId} {x y z : Operand} {b : Bool} {ty : TypeId} {pos : String} {aft : Array Edge} {g : Option (Nat × Bool)}
theorem step_not (hx : Lit st x (.bool b)) (hd : n d = true) : Step P n ⟨some d, .unOp .not T x, ty, pos, aft, g⟩ nid st (rdOf x) [(d, .c (.lit (.bool (!b))))] := by
 have := step_pure (P := P) (n := n) (nid := nid) (st := st) (o := ⟨some d, .unOp .not T x, ty, pos, aft, g⟩) (d := d) (u := .bool (!b)) [(x, .bool b)] rfl hd rfl (by simpa using hx) (fun ev w hev => by
  have e1 := hev (x, .bool b) (by simp)
  simp only at e1
  simp [execOp, e1, Op.unary])
 simpa using this
theorem step_pick_true {v : Value} (hx : Lit st x (.bool true)) (hy : Lit st y v) (hv : v.oneCell' = true) (hd : n d = true) : Step P n ⟨some d, .pick x y z, ty, pos, aft, g⟩ nid st (rdOf x ++ rdOf y) [(d, .c (.lit v))] := by
 have := step_pure (P := P) (n := n) (nid := nid) (st := st) (o := ⟨some d, .pick x y z, ty, pos, aft, g⟩) (d := d) (u := v) [(x, .bool true), (y, v)] rfl hd hv (by simpa using ⟨hx, hy⟩) (fun ev w hev => by
  have e1 := hev (x, .bool true) (by simp)
  have e2 := hev (y, v) (by simp)
  simp only at e1 e2
  simp [execOp, e1, e2, asBool])
 simpa using this
theorem step_pick_false {v : Value} (hx : Lit st x (.bool false)) (hz : Lit st z v) (hv : v.oneCell' = true) (hd : n d = true) : Step P n ⟨some d, .pick x y z, ty, pos, aft, g⟩ nid st (rdOf x ++ rdOf z) [(d, .c (.lit v))] := by
 have := step_pure (P := P) (n := n) (nid := nid) (st := st) (o := ⟨some d, .pick x y z, ty, pos, aft, g⟩) (d := d) (u := v) [(x, .bool false), (z, v)] rfl hd hv (by simpa using ⟨hx, hz⟩) (fun ev w hev => by
  have e1 := hev (x, .bool false) (by simp)
  have e2 := hev (z, v) (by simp)
  simp only at e1 e2
  simp [execOp, e1, e2, asBool])
 simpa using this
end bools
theorem SRs.at {F : Nat → Prop} {w : World} {ρ : Nat → Rho} : ∀ (l : List AV) (vs : List Value) (L : List Nat), SRs F w ρ l vs L → ∀ (j : Nat) (x : AV), l[j]? = some x → ∃ u A L1 B, vs[j]? = some u ∧ L = A ++ (L1 ++ B) ∧ SR F w ρ x u L1 ∧ SRs F w ρ (l.set j .dead) vs (A ++ B)
 | [], _, _, _, j, x, hx => by simp at hx
 | y :: l, vs, L, h, 0, x, hx => by
  simp only [SRs] at h
  obtain ⟨v, vs', L1, L2, rfl, rfl, h1, h2⟩ := h
  simp only [List.getElem?_cons_zero, Option.some.injEq] at hx
  subst hx
  refine ⟨v, [], L1, L2, rfl, rfl, h1, ?_⟩
  simp only [List.set_cons_zero, SRs]
  exact ⟨v, vs', [], L2, rfl, rfl, by simp only [SR], h2⟩
 | y :: l, vs, L, h, j + 1, x, hx => by
  simp only [SRs] at h
  obtain ⟨v, vs', L1, L2, rfl, rfl, h1, h2⟩ := h
  simp only [List.getElem?_cons_succ] at hx
  obtain ⟨u, A, M, B, hu, rfl, hM, hrest⟩ := SRs.at l vs' L2 h2 j x hx
  refine ⟨u, L1 ++ A, M, B, by simpa using hu, by simp, hM, ?_⟩
  simp only [List.set_cons_succ, SRs]
  exact ⟨v, vs', L1, A ++ B, rfl, by simp, h1, hrest⟩
theorem run_extract {vs : List Value} {j : Nat} {u : Value} (h : vs[j]? = some u) (w : World) : (Instr.extract (.tuple vs.toArray) j).run P w = .ok u w := by
 simp [Instr.extract, h]
theorem idss_mem {l : List AV} {j : Nat} {x : AV} (h : l[j]? = some x) : ∀ i ∈ x.ids, i ∈ AV.idss l := by
 induction l generalizing j with
 | nil => simp at h
 | cons y l ih =>
  intro i hi
  cases j with
  | zero => simp only [List.getElem?_cons_zero, Option.some.injEq] at h; subst h; simp [AV.idss, hi]
  | succ j => simp only [List.getElem?_cons_succ] at h; simp [AV.idss, ih h i hi]
theorem idss_set {l : List AV} {j : Nat} : ∀ i ∈ AV.idss (l.set j .dead), i ∈ AV.idss l := by
 induction l generalizing j with
 | nil => simp
 | cons y l ih =>
  intro i hi
  cases j with
  | zero => simp only [List.set_cons_zero, AV.idss, AV.ids, List.nil_append] at hi; simp [AV.idss, hi]
  | succ j =>
   simp only [List.set_cons_succ, AV.idss, List.mem_append] at hi ⊢
   rcases hi with hi | hi
   ·exact .inl hi
   ·exact .inr (ih i hi)
theorem step_extract_c {d t j : Nat} {l : List AV} {dd : D} {ty pos aft g} (h : st t = .tup l) (hj : l[j]? = some (.c dd)) (hd : n d = true) :
  Step P n ⟨some d, .extract (.tmp t) j, ty, pos, aft, g⟩ nid st [t] [(d, .c dd)] := by
 intro X st' hs hX f a w hn hrep K Q hK
 obtain ⟨ρ, L, hr⟩ := hrep
 subst hn
 have ht := hr.slots t
 rw [(hs t (by simp)).trans h] at ht
 simp only [SR] at ht
 obtain ⟨vs, e0, hv⟩ := ht
 obtain ⟨u, A, L1, B, hu, _, hx, _⟩ := SRs.at l vs _ hv j _ hj
 refine wV_ (u := u) (w' := w) ?_ (hr.done_light hK hd _ w (Keep.refl w) (by simp only [SR] at hx ⊢; exact ⟨trivial, hx.2⟩) (by simp [AV.ids]))
 have e1 : a.eval (.tmp t) = _ := e0
 simp only [execOp, e1, Sem.run_bind, run_extract hu, Result.andThen_ok, Sem.run_pure]
def lightOf : AV → AV
 | .c d => .c d
 | _ => .dead
theorem lights_sr {F : Nat → Prop} {w : World} {ρ : Nat → Rho} : ∀ {l : List AV} {vs : List Value} {L : List Nat}, SRs F w ρ l vs L → SRs F w ρ (l.map lightOf) vs []
 | [], vs, L, h => by simp only [SRs] at h; simp only [List.map_nil, SRs]; exact ⟨h.1, trivial⟩
 | x :: l, vs, L, h => by
  simp only [SRs] at h
  obtain ⟨v, vs', L1, L2, rfl, rfl, h1, h2⟩ := h
  simp only [List.map_cons, SRs]
  refine ⟨v, vs', [], [], rfl, rfl, ?_, lights_sr h2⟩
  cases x <;> simp only [lightOf, SR] at h1 ⊢
  exact ⟨trivial, h1.2⟩
theorem lights_ids : ∀ (l : List AV), AV.idss (l.map lightOf) = []
 | [] => rfl
 | x :: l => by
  simp only [List.map_cons, AV.idss, lights_ids l, List.append_nil]
  cases x <;> rfl
theorem step_move_tupn {d t : Nat} {l : List AV} {ty pos aft g} (h : st t = .tup l) (hd : n d = true) (hdt : d ≠ t) :
  Step P n ⟨some d, .move (.tmp t), ty, pos, aft, g⟩ nid st [t] [(t, .tupn nid l), (d, .tupr t nid (l.map lightOf))] := by
 intro X st' hs hX f a w hn hrep K Q hK
 obtain ⟨ρ, L, hr⟩ := hrep
 subst hn
 have ht : st' t = _ := (hs t (by simp)).trans h
 have hv := hr.slots t
 have hi := hr.ids t
 rw [ht] at hv hi
 simp only [SR] at hv
 obtain ⟨vs, e0, hv⟩ := hv
 have hfin : ∀ i, X i → (fun i => if i = nid then (fun _ => tmp a t) else ρ i : Nat → Rho) i = ρ i := fun i hi' => by simp only; rw [if_neg (by rintro rfl; exact hX hi')]
 have hv' : SRs f.F w (fun i => if i = nid then (fun _ => tmp a t) else ρ i) l vs (L t) := SRs.same (fun _ h => h) (fun _ _ => rfl) l vs _ hv (fun _ _ => rfl) (fun i hi' => hfin i (hi i (by simpa [AV.ids] using hi')))
 refine wV_ (u := tmp a t) (w' := w) rfl (hK _ _ ⟨fun i => if i = nid then (fun _ => tmp a t) else ρ i, fun s => if s = d then [] else L s, ?_⟩)
 refine hr.step (fun s => s = d ∨ s = t) [] _ _ _ w _ _ (put_defers _ _ _) (put_size _ _ _) (hold_put _ hd) (Keep.refl w) (by simp) hfin
  (fun s hs' => ?_) (fun s hs' => ?_) (fun s u hs' hu hne g hg hgu => ?_) (fun _ h => .inl h) (fun s hs' i hi' => ?_)
 ·have h1 : s ≠ d := fun e => hs' (.inl e)
  have h2 : s ≠ t := fun e => hs' (.inr e)
  exact ⟨by simp [puts, put, h1, h2], tmp_put_other _ _ _ _ h1, by simp [h1]⟩
 ·rcases hs' with rfl | rfl
  ·simp only [puts, put_same, tmp_put_same _ _ _ (hr.size _ hd), if_true, SR]
   exact ⟨⟨trivial, vs, e0, lights_sr hv'⟩, List.nodup_nil, fun g hg => by simp at hg⟩
  ·simp only [puts, put_other _ _ _ _ hdt.symm, put_same, if_neg hdt.symm, SR, tmp_put_other _ _ _ _ hdt.symm, if_true]
   exact ⟨⟨trivial, vs, e0, hv'⟩, hr.nodup s, fun g hg => ⟨(hr.bound s g hg).1, .inl ⟨s, .inr rfl, hg⟩⟩⟩
 ·rcases hs' with rfl | rfl <;> rcases hu with rfl | rfl
  ·exact hne rfl
  ·simp at hg
  ·simp at hgu
  ·exact hne rfl
 ·rcases hs' with rfl | rfl
  ·simp only [puts, put_same, AV.ids, lights_ids, List.mem_singleton] at hi'; exact .inr hi'
  ·simp only [puts, put_other _ _ _ _ hdt.symm, put_same, AV.ids, List.mem_cons] at hi'
   rcases hi' with rfl | hi'
   ·exact .inr rfl
   ·exact .inl (hi i (by simpa [AV.ids] using hi'))
theorem step_extract_ref_c {d t x id j : Nat} {l : List AV} {dd : D} {ty pos aft g} (h : st t = .tupr x id l) (hj : l[j]? = some (.c dd)) (hd : n d = true) :
  Step P n ⟨some d, .extract (.tmp t) j, ty, pos, aft, g⟩ nid st [t] [(d, .c dd)] := by
 intro X st' hs hX f a w hn hrep K Q hK
 obtain ⟨ρ, L, hr⟩ := hrep
 subst hn
 have ht := hr.slots t
 rw [(hs t (by simp)).trans h] at ht
 simp only [SR] at ht
 obtain ⟨_, vs, e0, hv⟩ := ht
 obtain ⟨u, A, L1, B, hu, _, hx, _⟩ := SRs.at l vs _ hv j _ hj
 refine wV_ (u := u) (w' := w) ?_ (hr.done_light hK hd _ w (Keep.refl w) (by simp only [SR] at hx ⊢; exact ⟨trivial, hx.2⟩) (by simp [AV.ids]))
 have e1 : a.eval (.tmp t) = _ := e0
 simp only [execOp, e1, Sem.run_bind, run_extract hu, Result.andThen_ok, Sem.run_pure]
theorem step_extract_ref_own {d t x id j : Nat} {l l2 : List AV} {dd : D} {ty pos aft g} (h : st t = .tupr x id l) (h2 : st x = .tupn id l2) (hj : l2[j]? = some (.raw dd)) (hd : n d = true) :
  Step P n ⟨some d, .extract (.tmp t) j, ty, pos, aft, g⟩ nid st [t, x] [(x, .tupn id (l2.set j .dead)), (d, .own nid dd)] := by
 intro X st' hs hX f a w hn hrep K Q hK
 obtain ⟨ρ, L, hr⟩ := hrep
 subst hn
 have h0 := hr.slots t
 rw [(hs t (by simp)).trans h] at h0
 simp only [SR] at h0
 obtain ⟨ev, _⟩ := h0
 have ht := hr.slots x
 have hi := hr.ids x
 rw [(hs x (by simp)).trans h2] at ht hi
 simp only [SR] at ht
 obtain ⟨en, vs, e0, hv⟩ := ht
 obtain ⟨u, A, L1, B, hu, eL, hx, hrest⟩ := SRs.at l2 vs _ hv j _ hj
 simp only [SR] at hx
 obtain ⟨r, hx⟩ := hx
 have hnd := hr.nodup x
 rw [eL] at hnd
 simp only [List.nodup_append, List.mem_append] at hnd
 have hm := hr.toM.detach x (.tupn id (l2.set j .dead)) (A ++ B) L1 (by simp only [SR]; exact ⟨en, vs, e0, hrest⟩) (fun i hi' => hi i (by simp only [AV.ids, List.mem_cons] at hi' ⊢; exact hi'.imp_right (idss_set i))) (fun g hg => by rw [eL]; simp only [List.mem_append] at hg ⊢; grind) (by simp only [List.nodup_append]; grind) hnd.2.1.1 (fun g hg hg' => by simp only [List.mem_append] at hg; grind)
 rw [List.nil_append] at hm
 refine wV_ (u := u) (w' := w) ?_ (hm.put_root (K := K) (d := d) hK hd hX _ w [] (by simp) (Keep.refl w) r L1 hx hm.nd (fun g hg => ⟨(hm.bound g hg).1, .inl hg⟩))
 have e1 : a.eval (.tmp t) = .tuple vs.toArray := by
  have : a.eval (.tmp t) = ρ id [] := ev
  rw [this, ← en, e0]
 simp only [execOp, e1, Sem.run_bind, run_extract hu, Result.andThen_ok, Sem.run_pure]
theorem step_extract_ref_agg {d t x id j : Nat} {l l2 l' : List AV} {ty pos aft g} (h : st t = .tupr x id l) (h2 : st x = .tupn id l2) (hj : l2[j]? = some (.agg l')) (hd : n d = true) :
  Step P n ⟨some d, .extract (.tmp t) j, ty, pos, aft, g⟩ nid st [t, x] [(x, .tupn id (l2.set j .dead)), (d, .agg l')] := by
 intro X st' hs hX f a w hn hrep K Q hK
 obtain ⟨ρ, L, hr⟩ := hrep
 subst hn
 have h0 := hr.slots t
 rw [(hs t (by simp)).trans h] at h0
 simp only [SR] at h0
 obtain ⟨ev, _⟩ := h0
 have ht := hr.slots x
 have hi := hr.ids x
 rw [(hs x (by simp)).trans h2] at ht hi
 simp only [SR] at ht
 obtain ⟨en, vs, e0, hv⟩ := ht
 obtain ⟨u, A, L1, B, hu, eL, hx, hrest⟩ := SRs.at l2 vs _ hv j _ hj
 have hnd := hr.nodup x
 rw [eL] at hnd
 simp only [List.nodup_append, List.mem_append] at hnd
 have hm := hr.toM.detach x (.tupn id (l2.set j .dead)) (A ++ B) L1 (by simp only [SR]; exact ⟨en, vs, e0, hrest⟩) (fun i hi' => hi i (by simp only [AV.ids, List.mem_cons] at hi' ⊢; exact hi'.imp_right (idss_set i))) (fun g hg => by rw [eL]; simp only [List.mem_append] at hg ⊢; grind) (by simp only [List.nodup_append]; grind) hnd.2.1.1 (fun g hg hg' => by simp only [List.mem_append] at hg; grind)
 rw [List.nil_append] at hm
 refine wV_ (u := u) (w' := w) ?_ (hm.put_raw (K := K) (d := d) (id := nid) hK hd _ w [] (by simp) (Keep.refl w) L1 hx hm.nd (fun g hg => ⟨(hm.bound g hg).1, .inl hg⟩) (fun i hi' => hi i (by simp only [AV.ids, List.mem_cons] at hi' ⊢; exact .inr (idss_mem hj i (by simpa [AV.ids] using hi')))))
 have e1 : a.eval (.tmp t) = .tuple vs.toArray := by
  have : a.eval (.tmp t) = ρ id [] := ev
  rw [this, ← en, e0]
 simp only [execOp, e1, Sem.run_bind, run_extract hu, Result.andThen_ok, Sem.run_pure]
end
end Go.Pv
