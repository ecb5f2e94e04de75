/- Steps that read slices and variables, and that make or extend slices. No condition. -/
import Derived.Test.YtpdfadnpfmlfgaaDoorNPvA
set_option linter.unusedVariables false
set_option linter.unusedSimpArgs false
namespace Go.Pv
open Go.RowKit
def Ok (P : Program) (n : NN) (o : Oper) (nid : Nat) (X : Nat → Prop) (st st' : Nat → AV) : Prop :=
  ∀ (f : Fr) (a : Act) (w : World), f.N = n → Rep f X st a w → ∀ (K : Act → World → Prop) (Q : Exit → Act → World → Prop),
    (∀ a' w', Rep f (fun i => X i ∨ i = nid) st' a' w' → K a' w') → o.wp P a w K Q
def Step (P : Program) (n : NN) (o : Oper) (nid : Nat) (st : Nat → AV) (rd : List Nat) (up : List (Nat × AV)) : Prop :=
  ∀ (X : Nat → Prop) (st' : Nat → AV), (∀ s ∈ rd, st' s = st s) → ¬ X nid → Ok P n o nid X st' (puts st' up)
def OkX (P : Program) (n : NN) (o : Oper) (nid : Nat) (X : Nat → Prop) (st st' : Nat → AV) : Prop :=
  ∀ (f : Fr) (a : Act) (w : World), f.N = n → RepX f X st a w → ∀ (K : Act → World → Prop) (Q : Exit → Act → World → Prop),
    (∀ a' w', RepX f (fun i => X i ∨ i = nid) st' a' w' → K a' w') → o.wp P a w K Q
theorem Ok.x {P : Program} {n : NN} {o : Oper} {nid : Nat} {X : Nat → Prop} {st st' : Nat → AV} (h : Ok P n o nid X st st') : OkX P n o nid X st st' :=
  fun _ a w hn ⟨f', k, hr⟩ K Q hK => h f' a w (k.N.trans hn) hr K Q fun a' w' r => hK a' w' ⟨f', k, r⟩
def StepX (P : Program) (n : NN) (o : Oper) (nid : Nat) (st : Nat → AV) (rd : List Nat) (up : List (Nat × AV)) : Prop :=
  ∀ (X : Nat → Prop) (st' : Nat → AV), (∀ s ∈ rd, st' s = st s) → ¬ X nid → OkX P n o nid X st' (puts st' up)
theorem Step.x {P : Program} {n : NN} {o : Oper} {nid : Nat} {st : Nat → AV} {rd : List Nat} {up : List (Nat × AV)} (h : Step P n o nid st rd up) : StepX P n o nid st rd up :=
  fun X st' hs hX => (h X st' hs hX).x
section
variable {P : Program} {n : NN} {nid : Nat} {st : Nat → AV}
theorem wp_of_value {o : Oper} {a : Act} {w w' : World} {K : Act → World → Prop} {Q : Exit → Act → World → Prop} {u : Value}
    (hr : (execOp a.eval o).run P w = .ok (.value u) w') (hK : K (a.put o.dst u) w') : o.wp P a w K Q := by
  unfold Oper.wp
  rw [hr]
  exact hK
theorem wp_of_skip {o : Oper} {a : Act} {w w' : World} {K : Act → World → Prop} {Q : Exit → Act → World → Prop}
    (hr : (execOp a.eval o).run P w = .ok .skip w') (hK : K (a.put o.dst undef) w') : o.wp P a w K Q := by
  unfold Oper.wp
  rw [hr]
  exact hK
def Lit (st : Nat → AV) : Operand → Value → Prop
  | .tmp t, v => st t = .c (.lit v)
  | .const u, v => u = v
  | .func f, v => Value.func (.func f) #[] #[] = v
  | .global _, _ => False
def rdOf : Operand → List Nat
  | .tmp t => [t]
  | _ => []
theorem Lit.agree {st st' : Nat → AV} {x : Operand} {v : Value} (h : Lit st x v) (hs : ∀ s ∈ rdOf x, st' s = st s) : Lit st' x v := by
  cases x with
  | tmp t => simp only [Lit] at *; rw [hs t (by simp [rdOf])]; exact h
  | _ => exact h
theorem Lit.eval {f : Fr} {X : Nat → Prop} {st : Nat → AV} {a : Act} {w : World} {ρ : Nat → Rho} {L : Nat → List Nat} (h : RepO f X st a w ρ L) {x : Operand} {v : Value} (hx : Lit st x v) : a.eval x = v := by
  cases x with
  | tmp t =>
    have := h.slots t
    simp only [Lit] at hx
    rw [hx] at this
    simp only [SR, RD] at this
    exact this.2.choose_spec.1
  | const u => exact hx
  | func f => exact hx
  | global g => exact hx.elim
theorem step_pure {o : Oper} {d : Nat} {u : Value} (xs : List (Operand × Value)) (hdst : o.dst = some d) (hd : n d = true) (hu : u.oneCell' = true)
    (hl : ∀ p ∈ xs, Lit st p.1 p.2)
    (hrun : ∀ (ev : Operand → Value) (w : World), (∀ p ∈ xs, ev p.1 = p.2) → (execOp ev o).run P w = .ok (.value u) w) :
    Step P n o nid st (xs.flatMap fun p => rdOf p.1) [(d, .c (.lit u))] := by
  intro X st' hs hX f a w hn hrep K Q hK
  obtain ⟨ρ, L, h⟩ := hrep
  subst hn
  refine wp_of_value (hrun a.eval w fun p hp => Lit.eval h ((hl p hp).agree fun s hs' => hs s (List.mem_flatMap.2 ⟨p, hp, hs'⟩))) (hK _ _ ⟨ρ, fun t => if t = d then [] else L t, ?_⟩)
  rw [hdst]
  exact (h.put_light d hd (.c (.lit u)) u w (Keep.refl w) (by simp only [SR, RD]; exact ⟨trivial, fun _ => .bool true, trivial, hu, trivial⟩) (by simp [AV.ids])).weaken (fun i hi => .inl hi)
theorem step_move_c {d t : Nat} {dd : D} {ty pos aft g} (h : st t = .c dd) (hd : n d = true) :
    Step P n ⟨some d, .move (.tmp t), ty, pos, aft, g⟩ nid st [t] [(d, .c dd)] := by
  intro X st' hs hX f a w hn hrep K Q hK
  obtain ⟨ρ, L, hr⟩ := hrep
  subst hn
  have ht : st' t = .c dd := (hs t (by simp)).trans h
  have hv := hr.slots t
  rw [ht] at hv
  refine wp_of_value (u := tmp a t) (w' := w) rfl (hK _ _ ⟨ρ, _, (hr.put_light d hd (.c dd) (tmp a t) w (Keep.refl w) ?_ (by simp [AV.ids])).weaken (fun i hi => .inl hi)⟩)
  simp only [SR] at hv ⊢
  exact ⟨trivial, hv.2⟩
theorem step_const {d : Nat} {u : Value} {ty pos aft g} (hu : u.oneCell' = true) (hd : n d = true) :
    Step P n ⟨some d, .assign (.const u), ty, pos, aft, g⟩ nid st [] [(d, .c (.lit u))] :=
  step_pure [(.const u, u)] rfl hd hu (by simp [Lit]) (fun ev w h => by simp only [execOp, h (.const u, u) (by simp)]; rfl)
theorem step_move_const {d : Nat} {u : Value} {ty pos aft g} (hu : u.oneCell' = true) (hd : n d = true) :
    Step P n ⟨some d, .move (.const u), ty, pos, aft, g⟩ nid st [] [(d, .c (.lit u))] :=
  step_pure [(.const u, u)] rfl hd hu (by simp [Lit]) (fun ev w h => by simp only [execOp, h (.const u, u) (by simp)]; rfl)
theorem step_assign_c {d t : Nat} {dd : D} {ty pos aft g} (h : st t = .c dd) (hd : n d = true) :
    Step P n ⟨some d, .assign (.tmp t), ty, pos, aft, g⟩ nid st [t] [(d, .c dd)] := by
  intro X st' hs hX f a w hn hrep K Q hK
  exact step_move_c (P := P) (ty := ty) (pos := pos) (aft := aft) (g := g) h hd X st' hs hX f a w hn hrep K Q hK
theorem step_move_own {d t id : Nat} {sz : Nat} {cs : List D} {ty pos aft g} (h : st t = .own id (.sl true sz cs)) (hd : n d = true) :
    Step P n ⟨some d, .move (.tmp t), ty, pos, aft, g⟩ nid st [t] [(d, .als t id [])] := by
  intro X st' hs hX f a w hn hrep K Q hK
  obtain ⟨ρ, L, hr⟩ := hrep
  subst hn
  have ht : st' t = _ := (hs t (by simp)).trans h
  have hv := hr.slots t
  have hi := hr.ids t
  rw [ht] at hv hi
  refine wp_of_value (u := tmp a t) (w' := w) rfl (hK _ _ ⟨ρ, _, (hr.put_light d hd (.als t id []) (tmp a t) w (Keep.refl w) ?_ (by simpa [AV.ids] using hi)).weaken (fun i hi => .inl hi)⟩)
  simp only [SR, RD] at hv ⊢
  exact ⟨trivial, hv.1⟩
theorem step_move_pt {d t id : Nat} {cs : List D} {ty pos aft g} (h : st t = .own id (.pt true cs)) (hd : n d = true) :
    Step P n ⟨some d, .move (.tmp t), ty, pos, aft, g⟩ nid st [t] [(d, .ptr t id [] 0)] := by
  intro X st' hs hX f a w hn hrep K Q hK
  obtain ⟨ρ, L, hr⟩ := hrep
  subst hn
  have ht : st' t = _ := (hs t (by simp)).trans h
  have hv := hr.slots t
  have hi := hr.ids t
  rw [ht] at hv hi
  refine wp_of_value (u := tmp a t) (w' := w) rfl (hK _ _ ⟨ρ, _, (hr.put_light d hd (.ptr t id [] 0) (tmp a t) w (Keep.refl w) ?_ (by simpa [AV.ids] using hi)).weaken (fun i hi => .inl hi)⟩)
  simp only [SR, RD] at hv ⊢
  obtain ⟨e, g, us, L1, _, e2, _⟩ := hv
  refine ⟨trivial, ⟨g, 0, none⟩, ?_, ?_⟩
  · rw [← e, e2]; rfl
  · rw [e2]; rfl
def AV.light : AV → Bool
  | .c _ | .als .. | .sub .. | .ptr .. | .sptr .. => true
  | _ => false
theorem SR.light {F : Nat → Prop} {w : World} {ρ : Nat → Rho} {a : AV} {v : Value} {L : List Nat} (h : SR F w ρ a v L) (hl : a.light = true) : SR F w ρ a v [] := by
  cases a <;> simp [AV.light] at hl <;> simp only [SR] at h ⊢ <;> exact ⟨trivial, h.2⟩
theorem step_copy {o : Oper} {d t : Nat} {av : AV} (hop : o.op = .move (.tmp t) ∨ o.op = .assign (.tmp t)) (hdst : o.dst = some d) (h : st t = av) (hl : av.light = true) (hd : n d = true) :
    Step P n o nid st [t] [(d, av)] := by
  intro X st' hs hX f a w hn hrep K Q hK
  obtain ⟨ρ, L, hr⟩ := hrep
  subst hn
  have ht : st' t = av := (hs t (by simp)).trans h
  have hv := hr.slots t
  have hi := hr.ids t
  rw [ht] at hv hi
  refine wp_of_value (u := tmp a t) (w' := w) ?_ (hK _ _ ⟨ρ, fun t => if t = d then [] else L t, ?_⟩)
  · rcases hop with e | e <;> simp only [execOp, e] <;> rfl
  · rw [hdst]
    exact (hr.put_light d hd av (tmp a t) w (Keep.refl w) (hv.light hl) hi).weaken (fun i hi => .inl hi)
theorem step_move_light {d t : Nat} {av : AV} {ty pos aft g} (h : st t = av) (hl : av.light = true) (hd : n d = true) :
    Step P n ⟨some d, .move (.tmp t), ty, pos, aft, g⟩ nid st [t] [(d, av)] := step_copy (.inl rfl) rfl h hl hd
theorem step_assign_light {d t : Nat} {av : AV} {ty pos aft g} (h : st t = av) (hl : av.light = true) (hd : n d = true) :
    Step P n ⟨some d, .assign (.tmp t), ty, pos, aft, g⟩ nid st [t] [(d, av)] := step_copy (.inr rfl) rfl h hl hd
theorem step_assign_own {d t id : Nat} {dd : D} {ty pos aft g} (h : st t = .own id dd) (hd : n d = true) (hdt : d ≠ t) :
    Step P n ⟨some d, .assign (.tmp t), ty, pos, aft, g⟩ nid st [t] [(t, .dead), (d, .own nid dd)] := by
  intro X st' hs hX f a w hn hrep K Q hK
  obtain ⟨ρ, L, hr⟩ := hrep
  subst hn
  have ht : st' t = _ := (hs t (by simp)).trans h
  have hv := hr.slots t
  rw [ht] at hv
  simp only [SR] at hv
  refine wp_of_value (u := tmp a t) (w' := w) rfl (hK _ _ ⟨fun i => if i = nid then ρ id else ρ i, fun s => if s = d then L t else if s = t then [] else L s, ?_⟩)
  refine hr.step (fun s => s = d ∨ s = t) [] _ _ _ w _ _ (put_defers _ _ _) (put_size _ _ _) (hold_put _ hd) (Keep.refl w) (by simp) (fun i hi => by rw [if_neg (by rintro rfl; exact hX hi)])
    (fun s hs' => ?_) (fun s hs' => ?_) (fun s u hs' hu hne g hg hgu => ?_) (fun _ h => .inl h) (fun s hs' i hi => ?_)
  · have h1 : s ≠ d := fun e => hs' (.inl e)
    have h2 : s ≠ t := fun e => hs' (.inr e)
    exact ⟨by simp [puts, put, h1, h2], tmp_put_other _ _ _ _ h1, by simp [h1, h2]⟩
  · rcases hs' with rfl | rfl
    · simp only [puts, put_same, tmp_put_same _ _ _ (hr.size _ hd), if_true, SR]
      exact ⟨hv, hr.nodup t, fun g hg => ⟨(hr.bound t g hg).1, .inl ⟨t, .inr rfl, hg⟩⟩⟩
    · simp only [puts, put_other _ _ _ _ hdt.symm, put_same, if_neg hdt.symm, if_true, SR]
      exact ⟨trivial, List.nodup_nil, fun g hg => by simp at hg⟩
  · rcases hs' with rfl | rfl <;> rcases hu with rfl | rfl
    · exact hne rfl
    · simp [hdt.symm] at hgu
    · simp [hdt.symm] at hg
    · exact hne rfl
  · rcases hs' with rfl | rfl
    · simp only [puts, put_same, AV.ids, List.mem_singleton] at hi; exact .inr hi
    · simp [puts, put_other _ _ _ _ hdt.symm, put_same, AV.ids] at hi
end
end Go.Pv
namespace Go.Pv
open Go.RowKit
class SliceTy (P : Program) (T : TypeId) (sz : outParam Nat) : Prop where
  out : ∃ e i z, P.underlying T = some (.slice e) ∧ P.info? e = some i ∧ i.size = sz ∧ 0 < sz ∧ sz ≤ 16 ∧ i.bytes ≤ 128 ∧ i.zero = some z ∧ z.cells.size = sz
class OneTy (P : Program) (T : TypeId) : Prop where
  out : ∃ d i, P.underlying T = some d ∧ (match d with | .struct _ | .array _ _ => false | _ => true) = true ∧ P.info? T = some i ∧ i.size = 1
class StructTy (P : Program) (T : TypeId) (sz : outParam Nat) : Prop where
  out : ∃ fs i, P.underlying T = some (.struct fs) ∧ P.info? T = some i ∧ i.size = sz
def Rho.shift (ρ : Rho) (i : Nat) : Rho := fun π => match π with
  | [] => ρ []
  | j :: q => ρ ((j + i) :: q)
section
variable {F : Nat → Prop} {w : World}
theorem RDs.shift : ∀ (ds : List D) (k i : Nat) (ρ : Rho) (us : List Value) (L : List Nat), RDs F w ds (k + i) ρ us L → RDs F w ds k (ρ.shift i) us L
  | [], _, _, _, _, _, h => by simpa only [RDs] using h
  | d :: ds, k, i, ρ, us, L, h => by
    simp only [RDs] at h ⊢
    obtain ⟨u, us', L1, L2, rfl, rfl, h1, h2⟩ := h
    exact ⟨u, us', L1, L2, rfl, rfl, h1, RDs.shift ds (k + 1) i ρ us' L2 (by rw [show k + 1 + i = k + i + 1 from by omega]; exact h2)⟩
theorem RDs.unshift : ∀ (ds : List D) (k i : Nat) (ρ : Rho) (us : List Value) (L : List Nat), RDs F w ds k ρ us L → RDs F w ds (k + i) (fun π => match π with | [] => ρ [] | j :: q => ρ ((j - i) :: q)) us L
  | [], _, _, _, _, _, h => by simpa only [RDs] using h
  | d :: ds, k, i, ρ, us, L, h => by
    simp only [RDs] at h ⊢
    obtain ⟨u, us', L1, L2, rfl, rfl, h1, h2⟩ := h
    refine ⟨u, us', L1, L2, rfl, rfl, ?_, ?_⟩
    · refine RD.rho d (ρ.at k) _ u L1 h1 (fun π => ?_)
      simp [Rho.at]
    · have := RDs.unshift ds (k + 1) i ρ us' L2 h2
      rw [show k + 1 + i = k + i + 1 from by omega] at this
      exact this
theorem RDs.append : ∀ (ds es : List D) (k : Nat) (ρ : Rho) (us vs : List Value) (L M : List Nat), RDs F w ds k ρ us L → RDs F w es (k + ds.length) ρ vs M → RDs F w (ds ++ es) k ρ (us ++ vs) (L ++ M)
  | [], es, k, ρ, us, vs, L, M, h, h' => by
    simp only [RDs] at h
    obtain ⟨rfl, rfl⟩ := h
    simpa using h'
  | d :: ds, es, k, ρ, us, vs, L, M, h, h' => by
    simp only [RDs, List.cons_append] at h ⊢
    obtain ⟨u, us', L1, L2, rfl, rfl, h1, h2⟩ := h
    refine ⟨u, us' ++ vs, L1, L2 ++ M, by simp, by simp, h1, RDs.append ds es (k + 1) ρ us' vs L2 M h2 ?_⟩
    rw [show k + 1 + ds.length = k + (d :: ds).length from by simp; omega]
    exact h'
theorem RDs.rest : ∀ (i : Nat) (ds : List D) (k : Nat) (ρ : Rho) (us : List Value), RDs F w ds k ρ us [] → RDs F w (ds.drop i) (k + min i ds.length) ρ (us.drop i) []
  | 0, ds, k, ρ, us, h => by simpa using h
  | i + 1, [], k, ρ, us, h => by
    simp only [RDs] at h
    obtain ⟨rfl, _⟩ := h
    simp [RDs]
  | i + 1, d :: ds, k, ρ, us, h => by
    simp only [RDs] at h
    obtain ⟨u, us', L1, L2, rfl, e, h1, h2⟩ := h
    simp only [List.nil_eq, List.append_eq_nil_iff] at e
    obtain ⟨rfl, rfl⟩ := e
    have := RDs.rest i ds (k + 1) ρ us' h2
    simp only [List.drop_succ_cons, List.length_cons]
    rw [show k + min (i + 1) (ds.length + 1) = k + 1 + min i ds.length from by omega]
    exact this
theorem RDs.take : ∀ (i : Nat) (ds : List D) (k : Nat) (ρ : Rho) (us : List Value), RDs F w ds k ρ us [] → RDs F w (ds.take i) k ρ (us.take i) []
  | 0, ds, k, ρ, us, _ => by simp [RDs]
  | i + 1, [], k, ρ, us, h => by
    simp only [RDs] at h
    obtain ⟨rfl, _⟩ := h
    simp [RDs]
  | i + 1, d :: ds, k, ρ, us, h => by
    simp only [RDs] at h
    obtain ⟨u, us', L1, L2, rfl, e, h1, h2⟩ := h
    simp only [List.nil_eq, List.append_eq_nil_iff] at e
    obtain ⟨rfl, rfl⟩ := e
    simp only [List.take_succ_cons, RDs]
    exact ⟨u, us'.take i, [], [], rfl, rfl, h1, RDs.take i ds (k + 1) ρ us' h2⟩
theorem RDs.cut (i m : Nat) (ds : List D) (k : Nat) (ρ : Rho) (us : List Value) (h : RDs F w ds k ρ us []) : ∃ ρ', RDs F w ((ds.drop i).take m) 0 ρ' ((us.drop i).take m) [] := by
  have h1 := RDs.take m _ _ _ _ (RDs.rest i ds k ρ us h)
  have h2 := RDs.shift _ 0 (k + min i ds.length) _ _ _ (by simpa using h1)
  exact ⟨_, h2⟩
theorem ShRow.cut {v : Value} {sz : Nat} {us : List Value} {a : Option Addr} {n c lo m : Nat} {a1 : Option Addr} {c1 : Nat} (h : ShRow F w v sz us) (hv : v = .slice a n c) (hb : lo + m ≤ n) (hmc : m ≤ c1) (hc : c1 ≤ maxLen) (ha : m ≠ 0 → a1 = a.map (·.add (lo * sz))) :
    ShRow F w (.slice a1 m c1) sz ((us.drop (lo * sz)).take (m * sz)) := by
  obtain ⟨a', n', c', e, h1, h2, h3, h4⟩ := h
  rw [hv] at e
  simp only [Value.slice.injEq] at e
  obtain ⟨rfl, rfl, rfl⟩ := e
  have hle : lo * sz + m * sz ≤ n * sz := by rw [← Nat.add_mul]; exact Nat.mul_le_mul_right _ hb
  refine ⟨a1, m, c1, rfl, ?_, hmc, hc, fun hne => ?_⟩
  · rw [List.length_take, List.length_drop]; omega
  · have hm0 : m ≠ 0 := by
      rintro rfl
      simp at hne
    have hus : us ≠ [] := by
      rintro rfl
      simp at hne
    obtain ⟨b, rfl, hb1, hb2⟩ := h4 hus
    refine ⟨b.add (lo * sz), by rw [ha hm0]; rfl, by rw [add_block]; exact hb1, fun j u hu => ?_⟩
    rw [List.getElem?_take] at hu
    split at hu
    · rw [List.getElem?_drop] at hu
      have := hb2 _ u hu
      rw [← this]
      congr 1
      unfold Addr.add
      by_cases e1 : lo * sz = 0 <;> by_cases e2 : j = 0 <;> simp [e1, e2]
      omega
    · cases hu
end
inductive View (st : Nat → AV) : Operand → List Nat → Nat → List D → Prop
  | sh {t sz cs} : st t = .c (.sl false sz cs) → View st (.tmp t) [t] sz cs
  | root {t id sz cs} : st t = .own id (.sl true sz cs) → View st (.tmp t) [t] sz cs
  | als {t x id path d sz cs} : st t = .als x id path → st x = .own id d → d.nav path = some (.sl true sz cs) → View st (.tmp t) [t, x] sz cs
  | sub {t x id path d sz lo n cs} : st t = .sub x id path sz lo n → st x = .own id d → d.nav path = some (.sl true sz cs) → View st (.tmp t) [t, x] sz ((cs.drop (lo * sz)).take (n * sz))
  | nil {sz} : View st (.const (.slice none 0 0)) [] sz []
section
variable {P : Program} {n : NN} {nid : Nat} {st : Nat → AV} {f : Fr} {X : Nat → Prop} {a : Act} {w : World} {ρ : Nat → Rho} {L : Nat → List Nat}
theorem View.agree {st st' : Nat → AV} {x : Operand} {rd : List Nat} {sz : Nat} {cs : List D} (h : View st x rd sz cs) (hs : ∀ s ∈ rd, st' s = st s) : View st' x rd sz cs := by
  cases h with
  | sh h => exact .sh ((hs _ (by simp)).trans h)
  | root h => exact .root ((hs _ (by simp)).trans h)
  | als h1 h2 h3 => exact .als ((hs _ (by simp)).trans h1) ((hs _ (by simp)).trans h2) h3
  | sub h1 h2 h3 => exact .sub ((hs _ (by simp)).trans h1) ((hs _ (by simp)).trans h2) h3
  | nil => exact .nil
theorem RepO.part (h : RepO f X st a w ρ L) {x id : Nat} {d d1 : D} {path : List Nat} (hx : st x = .own id d) (hn : d.nav path = some d1) :
    ∃ v1 A L1 B, L x = A ++ (L1 ++ B) ∧ RD f.F w d1 ((ρ id).sub path) v1 L1 ∧
      ∀ (w' : World) (d1' : D) (ρ1' : Rho) (L1' : List Nat), (∀ g, f.F g → Same w w' g) → (∀ g, g ∈ A ∨ g ∈ B → Same w w' g) → RD f.F w' d1' ρ1' v1 L1' →
        RD f.F w' (d.put path d1') ((ρ id).set path ρ1') (tmp a x) (A ++ (L1' ++ B)) := by
  have hv := h.slots x
  rw [hx] at hv
  simp only [SR] at hv
  exact RD.focus path d (ρ id) (tmp a x) (L x) hv d1 hn
theorem Rho.sub_nil (ρ : Rho) (path : List Nat) : ρ.sub path [] = ρ path := by simp [Rho.sub]
theorem RepO.live_lt (h : RepO f X st a w ρ L) : ∀ g, f.F g → g < w.heap.size := fun _ hg => h.F_lt hg
theorem RepO.partSl (h : RepO f X st a w ρ L) {x id sz : Nat} {d : D} {cs : List D} {path : List Nat} (hx : st x = .own id d) (hn : d.nav path = some (.sl true sz cs)) :
    ∃ us L0 L1, Row w (ρ id path) sz us L0 ∧ RDs f.F w cs 0 ((ρ id).sub path) us L1 ∧ (∀ g, g ∈ L0 ∨ g ∈ L1 → g ∈ L x) := by
  obtain ⟨v1, A, L1, B, e, h1, _⟩ := h.part hx hn
  simp only [RD] at h1
  obtain ⟨rfl, us, L0, L2, rfl, h2, h3⟩ := h1
  rw [Rho.sub_nil] at h2
  exact ⟨us, L0, L2, h2, h3, fun g hg => by rw [e]; simp; rcases hg with hg | hg <;> simp [hg]⟩
theorem Row.shRow {v : Value} {sz : Nat} {us : List Value} {L0 : List Nat} (h : Row w v sz us L0) (hL : ∀ g ∈ L0, g < w.heap.size) : ShRow (fun g => g < w.heap.size) w v sz us := by
  rcases h with ⟨rfl, rfl, rfl⟩ | ⟨g, o, n, cap, cur, e, h1, h2, h3, h4, h5, h6, h7, rfl⟩
  · exact ⟨none, 0, 0, rfl, by simp, Nat.le_refl _, Nat.zero_le _, fun h => absurd rfl h⟩
  · refine ⟨some ⟨g, o, none⟩, n, cap, h1, h3, h4, h5, fun _ => ⟨_, rfl, hL g (by simp), fun j u hu => ?_⟩⟩
    rw [addr_off]
    exact cell_off h2 h7 hu
theorem View.read (h : RepO f X st a w ρ L) {x : Operand} {rd : List Nat} {sz : Nat} {cs : List D} (hv : View st x rd sz cs) :
    ∃ us r, ShRow (fun g => g < w.heap.size) w (a.eval x) sz us ∧ RDs (fun g => g < w.heap.size) w (D.erases cs) 0 r us [] := by
  cases hv with
  | @sh t sz cs ht =>
    have := h.slots t
    rw [ht] at this
    simp only [SR, RD] at this
    obtain ⟨_, r, _, us, h1, h2⟩ := this
    exact ⟨us, r, h1.same h.live_lt (fun _ _ => rfl), RDs.erase h.live_lt cs 0 r us [] h2 (by simp)⟩
  | @root t id sz cs ht =>
    obtain ⟨us, L0, L1, h1, h2, h3⟩ := h.partSl (path := []) ht rfl
    have e : a.eval (.tmp t) = ρ id [] := by
      have := h.slots t
      rw [ht] at this
      simp only [SR, RD] at this
      exact this.1
    rw [e]
    exact ⟨us, _, h1.shRow (fun g hg => (h.bound t g (h3 g (.inl hg))).1), RDs.erase h.live_lt cs 0 _ us L1 h2 (fun g hg => (h.bound t g (h3 g (.inr hg))).1)⟩
  | @als t x id path d sz cs ht hx hn =>
    obtain ⟨us, L0, L1, h1, h2, h3⟩ := h.partSl hx hn
    have e : a.eval (.tmp t) = ρ id path := by
      have := h.slots t
      rw [ht] at this
      simp only [SR] at this
      exact this.2
    rw [e]
    exact ⟨us, _, h1.shRow (fun g hg => (h.bound x g (h3 g (.inl hg))).1), RDs.erase h.live_lt cs 0 _ us L1 h2 (fun g hg => (h.bound x g (h3 g (.inr hg))).1)⟩
  | @sub t x id path d sz lo n cs ht hx hn =>
    obtain ⟨us, L0, L1, h1, h2, h3⟩ := h.partSl hx hn
    have := h.slots t
    rw [ht] at this
    simp only [SR] at this
    obtain ⟨_, a0, n0, c0, a1, c1, e1, e2, e3, e4, e5, e6⟩ := this
    have hsh := h1.shRow (fun g hg => (h.bound x g (h3 g (.inl hg))).1)
    have her := RDs.erase (F' := fun g => g < w.heap.size) h.live_lt cs 0 _ us L1 h2 (fun g hg => (h.bound x g (h3 g (.inr hg))).1)
    obtain ⟨r, hr⟩ := RDs.cut (lo * sz) (n * sz) _ _ _ _ her
    refine ⟨_, r, ?_, by rw [D.erases_eq, List.map_take, List.map_drop, ← D.erases_eq]; exact hr⟩
    change ShRow _ _ (tmp a t) _ _
    rw [e2]
    exact hsh.cut e1 e3 e4 e5 (fun hne => (e6 hne).2)
  | nil => exact ⟨[], fun _ => undef, ⟨none, 0, 0, rfl, by simp, Nat.le_refl _, Nat.zero_le _, fun h => absurd rfl h⟩, by simp [D.erases, RDs]⟩
theorem step_len {d : Nat} {x : Operand} {T : TypeId} {sz sz' : Nat} {cs : List D} {rd : List Nat} {ty pos aft g} [SliceTy P T sz'] (hv : View st x rd sz cs) (m : Nat) (hm : cs.length = m * sz) (hsz : 0 < sz) (hd : n d = true) :
    Step P n ⟨some d, .call ⟨.builtin .len, #[x], #[T]⟩, ty, pos, aft, g⟩ nid st rd [(d, .c (.lit (.int .i64 m)))] := by
  intro X st' hs hX f a w hn hrep K Q hK
  obtain ⟨ρ, L, h⟩ := hrep
  subst hn
  obtain ⟨us, r, ⟨a0, n0, c0, e0, h1, h2, h3, _⟩, h5⟩ := (hv.agree hs).read h
  obtain ⟨e, i, z, t1, _⟩ := (SliceTy.out (P := P) (T := T) (sz := sz'))
  have hl := h5.length
  rw [D.erases_eq, List.length_map, ← h1, hm] at hl
  have en : n0 = m := Nat.eq_of_mul_eq_mul_right hsz hl
  subst en
  refine wp_of_value (u := .int .i64 n0) (w' := w) ?_ (h.done_lit hK hd rfl)
  simp [execOp, resolve, invoke, builtin, e0, Builtin.len_, run_underlying t1, goInt]
theorem run_index {T : TypeId} {sz : Nat} [ht : SliceTy P T sz] (w : World) (b : Addr) (len cap : Nat) (k : IntKind) (m : Nat) (hm : m < len) :
    (Instr.indexAt T (.slice (some b) len cap) (.int k (m : Int))).run P w = .ok (.pointer (some (b.add (m * sz)))) w := by
  obtain ⟨e, i, z, t1, t2, t3, _⟩ := ht.out
  have : (m : Int) < (len : Int) := by omega
  simp [Instr.indexAt, run_underlying t1, asIntOf, hm, sizeOf, typeInfo, t2, t3]
theorem add_add (b : Addr) (i j : Nat) : (b.add i).add j = b.add (i + j) := by
  unfold Addr.add
  by_cases e1 : i = 0 <;> by_cases e2 : j = 0 <;> simp [e1, e2]
  omega
theorem step_index_sh {d t : Nat} {xi : Operand} {T : TypeId} {sz m : Nat} {k : IntKind} {j : Int} {cs : List D} {ty pos aft g} [SliceTy P T sz] (h : st t = .c (.sl false sz cs)) (hi : Lit st xi (.int k j)) (hj : j = (m : Int)) (hm : m * sz + sz ≤ cs.length) (hd : n d = true) :
    Step P n ⟨some d, .indexAddr T (.tmp t) xi, ty, pos, aft, g⟩ nid st (t :: rdOf xi) [(d, .sptr cs (m * sz))] := by
  intro X st' hs hX f a w hn hrep K Q hK
  obtain ⟨ρ, L, hr⟩ := hrep
  subst hn
  have ht := hr.slots t
  rw [(hs t (by simp)).trans h] at ht
  simp only [SR, RD] at ht
  obtain ⟨_, r, _, us, ⟨a0, n0, c0, e0, h1, h2, h3, h4⟩, h5⟩ := ht
  have ei := Lit.eval hr (hi.agree fun s hs' => hs s (by simp [hs']))
  obtain ⟨e, i, z, t1, t2, t3, t4, _⟩ := (SliceTy.out (P := P) (T := T) (sz := sz))
  have hl := h5.length
  have hne : us ≠ [] := by rintro rfl; simp at hl; omega
  obtain ⟨b, rfl, hb, hc⟩ := h4 hne
  have hlt : m < n0 := by
    have : (m + 1) * sz ≤ n0 * sz := by rw [Nat.add_mul]; omega
    have := Nat.le_of_mul_le_mul_right this t4
    omega
  refine wp_of_value (u := .pointer (some (b.add (m * sz)))) (w' := w) ?_ (hr.done_light hK hd _ w (Keep.refl w) ?_ (by simp [AV.ids]))
  · have e1 : a.eval (.tmp t) = _ := e0
    simp only [execOp, e1, ei, hj, Sem.run_bind, run_index w b n0 c0 k m hlt, Result.andThen_ok, Sem.run_pure]
  · simp only [SR]
    exact ⟨trivial, b, us, r, rfl, hb, hc, h5⟩
theorem baseOf_row {v : Value} {sz : Nat} {us : List Value} {L0 : List Nat} (h : Row w v sz us L0) (hne : us ≠ []) :
    ∃ g o n cap, v = .slice (some ⟨g, o, none⟩) n cap ∧ n * sz = us.length ∧ baseOf v = some ⟨g, o, none⟩ ∧ L0 = [g] ∧ (∀ (j : Nat) (u : Value), us[j]? = some u → w.cell? ⟨g, o + j, none⟩ = some u) ∧ ∀ j, w.frozen? ⟨g, j, none⟩ = false := by
  rcases h with ⟨_, rfl, _⟩ | ⟨g, o, n, cap, cur, e, rfl, h2, h3, h4, h5, h6, h7, rfl⟩
  · exact absurd rfl hne
  · refine ⟨g, o, n, cap, rfl, h3, rfl, rfl, fun j u hu => cell_off h2 h7 hu, fun j => ?_⟩
    simp [World.frozen?, h2]
theorem step_index_als {d t x id : Nat} {path : List Nat} {dd : D} {xi : Operand} {T : TypeId} {sz m : Nat} {k : IntKind} {j : Int} {cs : List D} {ty pos aft g} [SliceTy P T sz] (h : st t = .als x id path) (hx : st x = .own id dd) (hn' : dd.nav path = some (.sl true sz cs))
    (hi : Lit st xi (.int k j)) (hj : j = (m : Int)) (hm : m * sz + sz ≤ cs.length) (hd : n d = true) :
    Step P n ⟨some d, .indexAddr T (.tmp t) xi, ty, pos, aft, g⟩ nid st (t :: x :: rdOf xi) [(d, .ptr x id path (m * sz))] := by
  intro X st' hs hX f a w hn hrep K Q hK
  obtain ⟨ρ, L, hr⟩ := hrep
  subst hn
  have ht := hr.slots t
  have hids := hr.ids t
  rw [(hs t (by simp)).trans h] at ht hids
  simp only [SR] at ht
  obtain ⟨us, L0, L1, h1, h5, h6⟩ := hr.partSl ((hs x (by simp)).trans hx) hn'
  have ei := Lit.eval hr (hi.agree fun s hs' => hs s (by simp [hs']))
  obtain ⟨e, i, z, t1, t2, t3, t4, _⟩ := (SliceTy.out (P := P) (T := T) (sz := sz))
  have hl := h5.length
  have hne : us ≠ [] := by rintro rfl; simp at hl; omega
  obtain ⟨g0, o0, n0, c0, e0, h7, h8, _⟩ := baseOf_row h1 hne
  have hlt : m < n0 := by
    have : (m + 1) * sz ≤ n0 * sz := by rw [Nat.add_mul]; omega
    have := Nat.le_of_mul_le_mul_right this t4
    omega
  refine wp_of_value (u := .pointer (some ((⟨g0, o0, none⟩ : Addr).add (m * sz)))) (w' := w) ?_ (hr.done_light hK hd _ w (Keep.refl w) ?_ (by simpa [AV.ids] using hids))
  · have e1 : a.eval (.tmp t) = _ := ht.2.trans e0
    simp only [execOp, e1, ei, hj, Sem.run_bind, run_index w _ n0 c0 k m hlt, Result.andThen_ok, Sem.run_pure]
  · simp only [SR]
    exact ⟨trivial, _, h8, rfl⟩
theorem step_index_root {d t id : Nat} {xi : Operand} {T : TypeId} {sz m : Nat} {k : IntKind} {j : Int} {cs : List D} {ty pos aft g} [SliceTy P T sz] (h : st t = .own id (.sl true sz cs))
    (hi : Lit st xi (.int k j)) (hj : j = (m : Int)) (hm : m * sz + sz ≤ cs.length) (hd : n d = true) :
    Step P n ⟨some d, .indexAddr T (.tmp t) xi, ty, pos, aft, g⟩ nid st (t :: rdOf xi) [(d, .ptr t id [] (m * sz))] := by
  intro X st' hs hX f a w hn hrep K Q hK
  obtain ⟨ρ, L, hr⟩ := hrep
  subst hn
  have ht := hr.slots t
  have hids := hr.ids t
  have hst := (hs t (by simp)).trans h
  rw [hst] at ht hids
  simp only [SR, RD] at ht
  obtain ⟨us, L0, L1, h1, h5, h6⟩ := hr.partSl (path := []) hst rfl
  have ei := Lit.eval hr (hi.agree fun s hs' => hs s (by simp [hs']))
  obtain ⟨e, i, z, t1, t2, t3, t4, _⟩ := (SliceTy.out (P := P) (T := T) (sz := sz))
  have hl := h5.length
  have hne : us ≠ [] := by rintro rfl; simp at hl; omega
  obtain ⟨g0, o0, n0, c0, e0, h7, h8, _⟩ := baseOf_row h1 hne
  have hlt : m < n0 := by
    have : (m + 1) * sz ≤ n0 * sz := by rw [Nat.add_mul]; omega
    have := Nat.le_of_mul_le_mul_right this t4
    omega
  refine wp_of_value (u := .pointer (some ((⟨g0, o0, none⟩ : Addr).add (m * sz)))) (w' := w) ?_ (hr.done_light hK hd _ w (Keep.refl w) ?_ (by simpa [AV.ids] using hids))
  · have e1 : a.eval (.tmp t) = _ := ht.1.trans e0
    simp only [execOp, e1, ei, hj, Sem.run_bind, run_index w _ n0 c0 k m hlt, Result.andThen_ok, Sem.run_pure]
  · simp only [SR]
    exact ⟨trivial, _, h8, rfl⟩
theorem step_index_sub {d t x id : Nat} {path : List Nat} {dd : D} {xi : Operand} {T : TypeId} {sz m lo nn : Nat} {k : IntKind} {j : Int} {cs : List D} {ty pos aft g} [SliceTy P T sz] (h : st t = .sub x id path sz lo nn) (hx : st x = .own id dd) (hn' : dd.nav path = some (.sl true sz cs))
    (hi : Lit st xi (.int k j)) (hj : j = (m : Int)) (hm : m < nn) (hd : n d = true) :
    Step P n ⟨some d, .indexAddr T (.tmp t) xi, ty, pos, aft, g⟩ nid st (t :: x :: rdOf xi) [(d, .ptr x id path ((lo + m) * sz))] := by
  intro X st' hs hX f a w hn hrep K Q hK
  obtain ⟨ρ, L, hr⟩ := hrep
  subst hn
  have ht := hr.slots t
  have hids := hr.ids t
  rw [(hs t (by simp)).trans h] at ht hids
  simp only [SR] at ht
  obtain ⟨_, a0, n0, c0, a1, c1, f1, f2, f3, f4, f5, f6⟩ := ht
  obtain ⟨us, L0, L1, h1, h5, h6⟩ := hr.partSl ((hs x (by simp)).trans hx) hn'
  have ei := Lit.eval hr (hi.agree fun s hs' => hs s (by simp [hs']))
  obtain ⟨e, i, z, t1, t2, t3, t4, _⟩ := (SliceTy.out (P := P) (T := T) (sz := sz))
  have hne : us ≠ [] := by
    rintro rfl
    rcases h1 with ⟨e1, _⟩ | ⟨g, o, n1, cap, cur, e, e1, _, e3, _⟩
    · rw [e1] at f1; simp at f1; omega
    · rw [e1] at f1
      simp only [Value.slice.injEq] at f1
      have : n1 = 0 := by
        rcases Nat.mul_eq_zero.1 (by simpa using e3) with h | h <;> omega
      omega
  obtain ⟨g0, o0, n1, cp, e0, h7, h8, _⟩ := baseOf_row h1 hne
  rw [e0] at f1
  simp only [Value.slice.injEq] at f1
  obtain ⟨rfl, rfl, rfl⟩ := f1
  have f7 := (f6 (by omega)).2
  simp only [Option.map_some] at f7
  refine wp_of_value (u := .pointer (some ((⟨g0, o0, none⟩ : Addr).add ((lo + m) * sz)))) (w' := w) ?_ (hr.done_light hK hd _ w (Keep.refl w) ?_ (by simpa [AV.ids] using hids))
  · have e1 : a.eval (.tmp t) = _ := f2
    rw [f7] at e1
    simp only [execOp, e1, ei, hj, Sem.run_bind, run_index w _ nn c1 k m hm, Result.andThen_ok, Sem.run_pure, add_add, ← Nat.add_mul]
  · simp only [SR]
    exact ⟨trivial, _, h8, rfl⟩
theorem step_index_header {d t x id : Nat} {path : List Nat} {xi : Operand} {T : TypeId} {sz m lo nn : Nat} {k : IntKind} {j : Int} {ty pos aft g} [SliceTy P T sz] (h : st t = .sub x id path sz lo nn)
    (hi : Lit st xi (.int k j)) (hj : j = (m : Int)) (hm : m < nn) (hd : n d = true) :
    Step P n ⟨some d, .indexAddr T (.tmp t) xi, ty, pos, aft, g⟩ nid st (t :: rdOf xi) [(d, .ptr x id path ((lo + m) * sz))] := by
  intro X st' hs hX f a w hn hrep K Q hK
  obtain ⟨ρ, L, hr⟩ := hrep
  subst hn
  have ht := hr.slots t
  have hids := hr.ids t
  rw [(hs t (by simp)).trans h] at ht hids
  simp only [SR] at ht
  obtain ⟨_, a0, n0, c0, a1, c1, f1, f2, f3, f4, f5, f6⟩ := ht
  have ei := Lit.eval hr (hi.agree fun s hs' => hs s (by simp [hs']))
  obtain ⟨f7, f8⟩ := f6 (by omega)
  obtain ⟨b, rfl⟩ := Option.isSome_iff_exists.1 f7
  simp only [Option.map_some] at f8
  refine wp_of_value (u := .pointer (some (b.add ((lo + m) * sz)))) (w' := w) ?_ (hr.done_light hK hd _ w (Keep.refl w) ?_ (by simpa [AV.ids] using hids))
  · have e1 : a.eval (.tmp t) = _ := f2
    rw [f8] at e1
    simp only [execOp, e1, ei, hj, Sem.run_bind, run_index w _ nn c1 k m hm, Result.andThen_ok, Sem.run_pure, add_add, ← Nat.add_mul]
  · simp only [SR]
    exact ⟨trivial, b, by rw [f1]; rfl, rfl⟩
end
end Go.Pv
