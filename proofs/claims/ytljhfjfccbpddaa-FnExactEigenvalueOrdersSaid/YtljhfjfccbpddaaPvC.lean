/- One operation of a region, as a step from what the slots hold to what they hold behind it: plain operations, reading, new memory. No condition. -/
import Derived.Test.YtljhfjfccbpddaaPvB
namespace Go.Pv
set_option linter.unusedVariables false
set_option linter.unusedSimpArgs false
open Go.RowKit

/-- Operation o leads from st to st', with the number nid for a root that it makes. -/
def Ok (P : Program) (n : NN) (o : Oper) (nid : Nat) (X : Nat → Prop) (st st' : Nat → AV) : Prop :=
  ∀ (f : Fr) (a : Act) (w : World), f.N = n → Rep f X st a w → ∀ (K : Act → World → Prop) (Q : Exit → Act → World → Prop),
    (∀ a' w', Rep f (fun i => X i ∨ i = nid) st' a' w' → K a' w') → o.wp P a w K Q

/-- The same, by the slots rd that it looks at and what it lays into the slots up. -/
def Step (P : Program) (n : NN) (o : Oper) (nid : Nat) (st : Nat → AV) (rd : List Nat) (up : List (Nat × AV)) : Prop :=
  ∀ (X : Nat → Prop) (st' : Nat → AV), (∀ s ∈ rd, st' s = st s) → ¬ X nid → Ok P n o nid X st' (puts st' up)

section
variable {P : Program} {n : NN} {nid : Nat} {st : Nat → AV}

theorem wp_of_value {o : Oper} {a : Act} {w w' : World} {K : Act → World → Prop} {Q : Exit → Act → World → Prop} {u : Value}
    (hr : (execOp a.eval o).run P w = .ok (.value u) w') (hK : K (a.put o.dst u) w') : o.wp P a w K Q := by
  unfold Oper.wp
  rw [hr]
  exact hK
theorem wp_of_skip {o : Oper} {a : Act} {w w' : World} {K : Act → World → Prop} {Q : Exit → Act → World → Prop}
    (hr : (execOp a.eval o).run P w = .ok .skip w') (hK : K (a.put o.dst undef) w') : o.wp P a w K Q := by
  unfold Oper.wp
  rw [hr]
  exact hK

/-! ### Operands -/

/-- The operand is this plain value. -/
def Lit (st : Nat → AV) : Operand → Value → Prop
  | .tmp t, v => st t = .c (.lit v)
  | .const u, v => u = v
  | .func f, v => Value.func (.func f) #[] #[] = v
  | .global _, _ => False
def rdOf : Operand → List Nat
  | .tmp t => [t]
  | _ => []

theorem Lit.agree {st st' : Nat → AV} {x : Operand} {v : Value} (h : Lit st x v) (hs : ∀ s ∈ rdOf x, st' s = st s) : Lit st' x v := by
  cases x with
  | tmp t => simp only [Lit] at *; rw [hs t (by simp [rdOf])]; exact h
  | _ => exact h

theorem Lit.eval {f : Fr} {X : Nat → Prop} {st : Nat → AV} {a : Act} {w : World} {ρ : Nat → Rho} {L : Nat → List Nat} (h : RepO f X st a w ρ L) {x : Operand} {v : Value} (hx : Lit st x v) : a.eval x = v := by
  cases x with
  | tmp t =>
    have := h.slots t
    simp only [Lit] at hx
    rw [hx] at this
    simp only [SR, RD] at this
    exact this.2.choose_spec.1
  | const u => exact hx
  | func f => exact hx
  | global g => exact hx.elim

/-- An operation on plain values that leaves the world alone. -/
theorem step_pure {o : Oper} {d : Nat} {u : Value} (xs : List (Operand × Value)) (hdst : o.dst = some d) (hd : n d = true) (hu : u.oneCell' = true)
    (hl : ∀ p ∈ xs, Lit st p.1 p.2)
    (hrun : ∀ (ev : Operand → Value) (w : World), (∀ p ∈ xs, ev p.1 = p.2) → (execOp ev o).run P w = .ok (.value u) w) :
    Step P n o nid st (xs.flatMap fun p => rdOf p.1) [(d, .c (.lit u))] := by
  intro X st' hs hX f a w hn hrep K Q hK
  obtain ⟨ρ, L, h⟩ := hrep
  subst hn
  refine wp_of_value (hrun a.eval w fun p hp => Lit.eval h ((hl p hp).agree fun s hs' => hs s (List.mem_flatMap.2 ⟨p, hp, hs'⟩))) (hK _ _ ⟨ρ, fun t => if t = d then [] else L t, ?_⟩)
  rw [hdst]
  exact (h.put_light d hd (.c (.lit u)) u w (Keep.refl w) (by simp only [SR, RD]; exact ⟨trivial, fun _ => .bool true, trivial, hu, trivial⟩) (by simp [AV.ids])).weaken (fun i hi => .inl hi)

/-! ### Moves -/

theorem step_move_c {d t : Nat} {dd : D} {ty pos aft g} (h : st t = .c dd) (hd : n d = true) :
    Step P n ⟨some d, .move (.tmp t), ty, pos, aft, g⟩ nid st [t] [(d, .c dd)] := by
  intro X st' hs hX f a w hn hrep K Q hK
  obtain ⟨ρ, L, hr⟩ := hrep
  subst hn
  have ht : st' t = .c dd := (hs t (by simp)).trans h
  have hv := hr.slots t
  rw [ht] at hv
  refine wp_of_value (u := tmp a t) (w' := w) rfl (hK _ _ ⟨ρ, _, (hr.put_light d hd (.c dd) (tmp a t) w (Keep.refl w) ?_ (by simp [AV.ids])).weaken (fun i hi => .inl hi)⟩)
  simp only [SR] at hv ⊢
  exact ⟨trivial, hv.2⟩

theorem step_const {d : Nat} {u : Value} {ty pos aft g} (hu : u.oneCell' = true) (hd : n d = true) :
    Step P n ⟨some d, .assign (.const u), ty, pos, aft, g⟩ nid st [] [(d, .c (.lit u))] :=
  step_pure [(.const u, u)] rfl hd hu (by simp [Lit]) (fun ev w h => by simp only [execOp, h (.const u, u) (by simp)]; rfl)
theorem step_move_const {d : Nat} {u : Value} {ty pos aft g} (hu : u.oneCell' = true) (hd : n d = true) :
    Step P n ⟨some d, .move (.const u), ty, pos, aft, g⟩ nid st [] [(d, .c (.lit u))] :=
  step_pure [(.const u, u)] rfl hd hu (by simp [Lit]) (fun ev w h => by simp only [execOp, h (.const u, u) (by simp)]; rfl)

theorem step_assign_c {d t : Nat} {dd : D} {ty pos aft g} (h : st t = .c dd) (hd : n d = true) :
    Step P n ⟨some d, .assign (.tmp t), ty, pos, aft, g⟩ nid st [t] [(d, .c dd)] := by
  intro X st' hs hX f a w hn hrep K Q hK
  exact step_move_c (P := P) (ty := ty) (pos := pos) (aft := aft) (g := g) h hd X st' hs hX f a w hn hrep K Q hK

/-- A variable that is the root of something: the temporary is a name of it. -/
theorem step_move_own {d t id : Nat} {sz : Nat} {cs : List D} {ty pos aft g} (h : st t = .own id (.sl true sz cs)) (hd : n d = true) :
    Step P n ⟨some d, .move (.tmp t), ty, pos, aft, g⟩ nid st [t] [(d, .als t id [])] := by
  intro X st' hs hX f a w hn hrep K Q hK
  obtain ⟨ρ, L, hr⟩ := hrep
  subst hn
  have ht : st' t = _ := (hs t (by simp)).trans h
  have hv := hr.slots t
  have hi := hr.ids t
  rw [ht] at hv hi
  refine wp_of_value (u := tmp a t) (w' := w) rfl (hK _ _ ⟨ρ, _, (hr.put_light d hd (.als t id []) (tmp a t) w (Keep.refl w) ?_ (by simpa [AV.ids] using hi)).weaken (fun i hi => .inl hi)⟩)
  simp only [SR, RD] at hv ⊢
  exact ⟨trivial, hv.1⟩

theorem step_move_pt {d t id : Nat} {cs : List D} {ty pos aft g} (h : st t = .own id (.pt true cs)) (hd : n d = true) :
    Step P n ⟨some d, .move (.tmp t), ty, pos, aft, g⟩ nid st [t] [(d, .ptr t id [] 0)] := by
  intro X st' hs hX f a w hn hrep K Q hK
  obtain ⟨ρ, L, hr⟩ := hrep
  subst hn
  have ht : st' t = _ := (hs t (by simp)).trans h
  have hv := hr.slots t
  have hi := hr.ids t
  rw [ht] at hv hi
  refine wp_of_value (u := tmp a t) (w' := w) rfl (hK _ _ ⟨ρ, _, (hr.put_light d hd (.ptr t id [] 0) (tmp a t) w (Keep.refl w) ?_ (by simpa [AV.ids] using hi)).weaken (fun i hi => .inl hi)⟩)
  simp only [SR, RD] at hv ⊢
  obtain ⟨e, g, us, L1, _, e2, _⟩ := hv
  refine ⟨trivial, ⟨g, 0, none⟩, ?_, ?_⟩
  · rw [← e, e2]; rfl
  · rw [e2]; rfl

/-- What owns nothing is copied as it stands. -/
def AV.light : AV → Bool
  | .c _ | .als .. | .sub .. | .ptr .. | .sptr .. => true
  | _ => false

theorem SR.light {F : Nat → Prop} {w : World} {ρ : Nat → Rho} {a : AV} {v : Value} {L : List Nat} (h : SR F w ρ a v L) (hl : a.light = true) : SR F w ρ a v [] := by
  cases a <;> simp [AV.light] at hl <;> simp only [SR] at h ⊢ <;> exact ⟨trivial, h.2⟩

theorem step_copy {o : Oper} {d t : Nat} {av : AV} (hop : o.op = .move (.tmp t) ∨ o.op = .assign (.tmp t)) (hdst : o.dst = some d) (h : st t = av) (hl : av.light = true) (hd : n d = true) :
    Step P n o nid st [t] [(d, av)] := by
  intro X st' hs hX f a w hn hrep K Q hK
  obtain ⟨ρ, L, hr⟩ := hrep
  subst hn
  have ht : st' t = av := (hs t (by simp)).trans h
  have hv := hr.slots t
  have hi := hr.ids t
  rw [ht] at hv hi
  refine wp_of_value (u := tmp a t) (w' := w) ?_ (hK _ _ ⟨ρ, fun t => if t = d then [] else L t, ?_⟩)
  · rcases hop with e | e <;> simp only [execOp, e] <;> rfl
  · rw [hdst]
    exact (hr.put_light d hd av (tmp a t) w (Keep.refl w) (hv.light hl) hi).weaken (fun i hi => .inl hi)

theorem step_move_light {d t : Nat} {av : AV} {ty pos aft g} (h : st t = av) (hl : av.light = true) (hd : n d = true) :
    Step P n ⟨some d, .move (.tmp t), ty, pos, aft, g⟩ nid st [t] [(d, av)] := step_copy (.inl rfl) rfl h hl hd
theorem step_assign_light {d t : Nat} {av : AV} {ty pos aft g} (h : st t = av) (hl : av.light = true) (hd : n d = true) :
    Step P n ⟨some d, .assign (.tmp t), ty, pos, aft, g⟩ nid st [t] [(d, av)] := step_copy (.inr rfl) rfl h hl hd

/-- A root moves from one slot to another; it gets a new number. -/
theorem step_assign_own {d t id : Nat} {dd : D} {ty pos aft g} (h : st t = .own id dd) (hd : n d = true) (hdt : d ≠ t) :
    Step P n ⟨some d, .assign (.tmp t), ty, pos, aft, g⟩ nid st [t] [(t, .dead), (d, .own nid dd)] := by
  intro X st' hs hX f a w hn hrep K Q hK
  obtain ⟨ρ, L, hr⟩ := hrep
  subst hn
  have ht : st' t = _ := (hs t (by simp)).trans h
  have hv := hr.slots t
  rw [ht] at hv
  simp only [SR] at hv
  refine wp_of_value (u := tmp a t) (w' := w) rfl (hK _ _ ⟨fun i => if i = nid then ρ id else ρ i, fun s => if s = d then L t else if s = t then [] else L s, ?_⟩)
  refine hr.step (fun s => s = d ∨ s = t) [] _ _ _ w _ _ (put_defers _ _ _) (put_size _ _ _) (hold_put _ hd) (Keep.refl w) (by simp) (fun i hi => by rw [if_neg (by rintro rfl; exact hX hi)])
    (fun s hs' => ?_) (fun s hs' => ?_) (fun s u hs' hu hne g hg hgu => ?_) (fun _ h => .inl h) (fun s hs' i hi => ?_)
  · have h1 : s ≠ d := fun e => hs' (.inl e)
    have h2 : s ≠ t := fun e => hs' (.inr e)
    exact ⟨by simp [puts, put, h1, h2], tmp_put_other _ _ _ _ h1, by simp [h1, h2]⟩
  · rcases hs' with rfl | rfl
    · simp only [puts, put_same, tmp_put_same _ _ _ (hr.size _ hd), if_true, SR]
      exact ⟨hv, hr.nodup t, fun g hg => ⟨(hr.bound t g hg).1, .inl ⟨t, .inr rfl, hg⟩⟩⟩
    · simp only [puts, put_other _ _ _ _ hdt.symm, put_same, if_neg hdt.symm, if_true, SR]
      exact ⟨trivial, List.nodup_nil, fun g hg => by simp at hg⟩
  · rcases hs' with rfl | rfl <;> rcases hu with rfl | rfl
    · exact hne rfl
    · simp [hdt.symm] at hgu
    · simp [hdt.symm] at hg
    · exact hne rfl
  · rcases hs' with rfl | rfl
    · simp only [puts, put_same, AV.ids, List.mem_singleton] at hi; exact .inr hi
    · simp [puts, put_other _ _ _ _ hdt.symm, put_same, AV.ids] at hi

end
end Go.Pv
