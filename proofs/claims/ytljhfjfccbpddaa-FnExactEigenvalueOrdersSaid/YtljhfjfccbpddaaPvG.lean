/- Handing over what a slot owns; new variables, new slices, extended slices. No condition. -/
import Derived.Test.YtljhfjfccbpddaaPvF
namespace Go.Pv
set_option linter.unusedVariables false
set_option linter.unusedSimpArgs false
open Go.RowKit

/-- As RepO, with blocks M that belong to no slot at the moment. -/
structure RepM (f : Fr) (X : Nat → Prop) (st : Nat → AV) (a : Act) (w : World) (ρ : Nat → Rho) (L : Nat → List Nat) (M : List Nat) : Prop where
  rep : RepO f X st a w ρ L
  nd : M.Nodup
  disj : ∀ t, ∀ g ∈ L t, g ∉ M
  bound : ∀ g ∈ M, g < w.heap.size ∧ ¬ f.F g
  mine : ∀ g ∈ M, g ∈ f.M ∨ f.w0.heap.size ≤ g

section
variable {P : Program} {n : NN} {nid : Nat} {st : Nat → AV} {f : Fr} {X : Nat → Prop} {a : Act} {w : World} {ρ : Nat → Rho} {L : Nat → List Nat} {M : List Nat}

theorem RepO.toM (h : RepO f X st a w ρ L) : RepM f X st a w ρ L [] := ⟨h, List.nodup_nil, by simp, by simp, by simp⟩

/-- One step: the slots T change, the blocks Mw (of those slots, or of none) are written. -/
theorem RepM.step (h : RepM f X st a w ρ L M) (T : Nat → Prop) (Mw : List Nat) (X' : Nat → Prop) (st' : Nat → AV) (a' : Act) (w' : World) (ρ' : Nat → Rho) (L' : Nat → List Nat)
    (hd : a'.defers = a.defers) (hsize : a'.tmps.size = a.tmps.size) (hH : ∀ t, f.N t = false → tmp a' t = tmp a t) (hk : Keep w Mw w') (hM : ∀ g ∈ Mw, (∃ t, T t ∧ g ∈ L t) ∨ g ∈ M) (hρ : ∀ i, X i → ρ' i = ρ i)
    (hsame : ∀ t, ¬ T t → st' t = st t ∧ tmp a' t = tmp a t ∧ L' t = L t)
    (hnew : ∀ t, T t → SR f.F w' ρ' (st' t) (tmp a' t) (L' t) ∧ (L' t).Nodup ∧ ∀ g ∈ L' t, g < w'.heap.size ∧ ((∃ u, T u ∧ g ∈ L u) ∨ g ∈ M ∨ w.heap.size ≤ g))
    (hdisj : ∀ t u, T t → T u → t ≠ u → ∀ g ∈ L' t, g ∉ L' u)
    (hX : ∀ i, X i → X' i) (hids : ∀ t, T t → ∀ i ∈ (st' t).ids, X' i) : RepO f X' st' a' w' ρ' L' := by
  have h0 := h.rep
  have hF : ∀ g, f.F g → Same w w' g := fun g hg => hk.block g (h0.F_lt hg) (fun hm => by
    rcases hM g hm with ⟨t, _, ht⟩ | ht
    · exact (h0.bound t g ht).2 hg
    · exact (h.bound g ht).2 hg)
  have hL : ∀ t, ¬ T t → ∀ g ∈ L t, Same w w' g := fun t ht g hg => hk.block g (h0.bound t g hg).1 (fun hm => by
    rcases hM g hm with ⟨u, hu, hgu⟩ | hgu
    · exact h0.disj t u (by rintro rfl; exact ht hu) g hg hgu
    · exact h.disj t g hg hgu)
  refine ⟨hd.trans h0.defers, fun d hd => by rw [hsize]; exact h0.size d hd, fun q hq => ⟨(h0.hold q hq).1, (hH _ (h0.hold q hq).1).trans (h0.hold q hq).2⟩, h0.keep.trans hk (fun g hg hlt => ?_), fun t => ?_, fun t => ?_, fun t u htu g hg hgu => ?_, fun t g hg => ?_, fun t i hi => ?_, fun t g hg => ?_, fun q hq => ⟨hX _ (h0.names q hq).1, (hρ _ (h0.names q hq).1).trans (h0.names q hq).2⟩⟩
  · have hmine : g ∈ f.M ∨ f.w0.heap.size ≤ g := by
      rcases hM g hg with ⟨t, _, ht⟩ | ht
      · exact h0.mine t g ht
      · exact h.mine g ht
    rcases hmine with hm | hm
    · exact hm
    · omega
  · by_cases ht : T t
    · exact (hnew t ht).1
    · obtain ⟨e1, e2, e3⟩ := hsame t ht
      rw [e1, e2, e3]
      exact SR.same (fun _ h => h) hF _ _ _ (h0.slots t) (hL t ht) (fun i hi => hρ i (h0.ids t i hi))
  · by_cases ht : T t
    · exact (hnew t ht).2.1
    · rw [(hsame t ht).2.2]; exact h0.nodup t
  · by_cases ht : T t <;> by_cases hu : T u
    · exact hdisj t u ht hu htu g hg hgu
    · rw [(hsame u hu).2.2] at hgu
      rcases ((hnew t ht).2.2 g hg).2 with ⟨v, hv, hgv⟩ | hgm | hge
      · exact h0.disj v u (by rintro rfl; exact hu hv) g hgv hgu
      · exact h.disj u g hgu hgm
      · have := (h0.bound u g hgu).1; omega
    · rw [(hsame t ht).2.2] at hg
      rcases ((hnew u hu).2.2 g hgu).2 with ⟨v, hv, hgv⟩ | hgm | hge
      · exact h0.disj v t (by rintro rfl; exact ht hv) g hgv hg
      · exact h.disj t g hg hgm
      · have := (h0.bound t g hg).1; omega
    · rw [(hsame t ht).2.2] at hg
      rw [(hsame u hu).2.2] at hgu
      exact h0.disj t u htu g hg hgu
  · by_cases ht : T t
    · refine ⟨((hnew t ht).2.2 g hg).1, fun hf => ?_⟩
      rcases ((hnew t ht).2.2 g hg).2 with ⟨v, hv, hgv⟩ | hgm | hge
      · exact (h0.bound v g hgv).2 hf
      · exact (h.bound g hgm).2 hf
      · have := h0.F_lt hf; omega
    · rw [(hsame t ht).2.2] at hg
      exact ⟨Nat.lt_of_lt_of_le (h0.bound t g hg).1 hk.size, (h0.bound t g hg).2⟩
  · by_cases ht : T t
    · exact hids t ht i hi
    · rw [(hsame t ht).1] at hi
      exact hX i (h0.ids t i hi)
  · by_cases ht : T t
    · rcases ((hnew t ht).2.2 g hg).2 with ⟨v, hv, hgv⟩ | hgm | hge
      · exact h0.mine v g hgv
      · exact h.mine g hgm
      · exact .inr (Nat.le_trans h0.keep.size hge)
    · rw [(hsame t ht).2.2] at hg
      exact h0.mine t g hg

/-- A slot takes the root of something that is new, or was nobody's. -/
theorem RepM.put_root {K : Act → World → Prop} (h : RepM f X st a w ρ L M) {d id : Nat} {D1 : D} (hK : ∀ a' w', Rep f (fun i => X i ∨ i = id) (put st d (.own id D1)) a' w' → K a' w') (hd : f.N d = true) (hid : ¬ X id) (v : Value) (w' : World) (Mw : List Nat) (hMw : ∀ g ∈ Mw, g ∈ M) (hk : Keep w Mw w') (r : Rho) (L1 : List Nat)
    (hv : RD f.F w' D1 r v L1) (hn : L1.Nodup) (hL : ∀ g ∈ L1, g < w'.heap.size ∧ (g ∈ M ∨ w.heap.size ≤ g)) : K (a.put (some d) v) w' := by
  refine hK _ _ ⟨fun i => if i = id then r else ρ i, fun t => if t = d then L1 else L t, ?_⟩
  refine h.step (fun t => t = d) Mw _ _ _ w' _ _ (put_defers _ _ _) (put_size _ _ _) (hold_put _ hd) hk (fun g hg => .inr (hMw g hg)) (fun i hi => by rw [if_neg (by rintro rfl; exact hid hi)]) (fun t ht => ⟨put_other _ _ _ _ ht, tmp_put_other _ _ _ _ ht, by simp [ht]⟩) (fun t ht => ?_) (fun t u ht hu hne => absurd (ht.trans hu.symm) hne) (fun _ h => .inl h) (fun t ht i hi => ?_)
  · subst ht
    rw [put_same, tmp_put_same _ _ _ (h.rep.size _ hd), if_pos rfl]
    refine ⟨?_, hn, fun g hg => ⟨(hL g hg).1, .inr (hL g hg).2⟩⟩
    simp only [SR, if_true]
    exact hv
  · subst ht; rw [put_same] at hi; simp only [AV.ids, List.mem_singleton] at hi; exact .inr hi

/-- A slot takes a datum without a number. -/
theorem RepM.put_raw {K : Act → World → Prop} (h : RepM f X st a w ρ L M) {d id : Nat} {av : AV} (hK : ∀ a' w', Rep f (fun i => X i ∨ i = id) (put st d av) a' w' → K a' w') (hd : f.N d = true) (v : Value) (w' : World) (Mw : List Nat) (hMw : ∀ g ∈ Mw, g ∈ M) (hk : Keep w Mw w') (L1 : List Nat)
    (hv : SR f.F w' ρ av v L1) (hn : L1.Nodup) (hL : ∀ g ∈ L1, g < w'.heap.size ∧ (g ∈ M ∨ w.heap.size ≤ g)) (hids : ∀ i ∈ av.ids, X i) : K (a.put (some d) v) w' := by
  refine hK _ _ ⟨ρ, fun t => if t = d then L1 else L t, ?_⟩
  refine h.step (fun t => t = d) Mw _ _ _ w' _ _ (put_defers _ _ _) (put_size _ _ _) (hold_put _ hd) hk (fun g hg => .inr (hMw g hg)) (fun i hi => rfl) (fun t ht => ⟨put_other _ _ _ _ ht, tmp_put_other _ _ _ _ ht, by simp [ht]⟩) (fun t ht => ?_) (fun t u ht hu hne => absurd (ht.trans hu.symm) hne) (fun _ h => .inl h) (fun t ht i hi => ?_)
  · subst ht
    rw [put_same, tmp_put_same _ _ _ (h.rep.size _ hd), if_pos rfl]
    exact ⟨hv, hn, fun g hg => ⟨(hL g hg).1, .inr (hL g hg).2⟩⟩
  · subst ht; rw [put_same] at hi; exact .inl (hids i hi)

/-- A part of a slot is handed over; the slot itself then holds av. -/
theorem RepM.detach (h : RepM f X st a w ρ L M) (x : Nat) (av : AV) (Lx M1 : List Nat) (hsr : SR f.F w ρ av (tmp a x) Lx) (hids : ∀ i ∈ av.ids, X i)
    (hp : ∀ g, (g ∈ Lx ∨ g ∈ M1) → g ∈ L x) (hn : Lx.Nodup) (hm : M1.Nodup) (hdis : ∀ g ∈ Lx, g ∉ M1) :
    RepM f X (put st x av) a w ρ (fun t => if t = x then Lx else L t) (M ++ M1) := by
  have h0 := h.rep
  refine ⟨?_, ?_, fun t g hg => ?_, fun g hg => ?_, fun g hg => ?_⟩
  · refine h0.step (fun t => t = x) [] X _ a w ρ _ rfl rfl (fun _ _ => rfl) (Keep.refl w) (by simp) (fun _ _ => rfl) (fun t ht => ⟨put_other _ _ _ _ ht, rfl, by simp [ht]⟩) (fun t ht => ?_) (fun t u ht hu hne => absurd (ht.trans hu.symm) hne) (fun _ h => h) (fun t ht i hi => ?_)
    · subst ht
      rw [put_same, if_pos rfl]
      exact ⟨hsr, hn, fun g hg => ⟨(h0.bound t g (hp g (.inl hg))).1, .inl ⟨t, rfl, hp g (.inl hg)⟩⟩⟩
    · subst ht; rw [put_same] at hi; exact hids i hi
  · rw [List.nodup_append]
    exact ⟨h.nd, hm, fun g hg g' hg' e => h.disj x g' (hp g' (.inr hg')) (e ▸ hg)⟩
  · rw [List.mem_append, not_or]
    by_cases ht : t = x
    · subst ht
      rw [if_pos rfl] at hg
      exact ⟨h.disj t g (hp g (.inl hg)), hdis g hg⟩
    · rw [if_neg ht] at hg
      exact ⟨h.disj t g hg, fun hg' => h0.disj t x ht g hg (hp g (.inr hg'))⟩
  · rw [List.mem_append] at hg
    rcases hg with hg | hg
    · exact h.bound g hg
    · exact h0.bound x g (hp g (.inr hg))
  · rw [List.mem_append] at hg
    rcases hg with hg | hg
    · exact h.mine g hg
    · exact h0.mine x g (hp g (.inr hg))

/-- How an operand's datum is handed over, and what its slots hold behind that. -/
inductive Give (st : Nat → AV) : Operand → List Nat → D → List (Nat × AV) → Prop
  | lit {v} : v.oneCell' = true → Give st (.const v) [] (.lit v) []
  | nil {sz} : Give st (.const (.slice none 0 0)) [] (.sl true sz []) []
  | c {t d} : st t = .c d → Give st (.tmp t) [t] d []
  | own {t id d} : st t = .own id d → Give st (.tmp t) [t] d [(t, .dead)]
  | als {t x id sz cs} : st t = .als x id [] → st x = .own id (.sl true sz cs) → Give st (.tmp t) [t, x] (.sl true sz cs) [(x, .dead)]
  | ptr {t x id cs} : st t = .ptr x id [] 0 → st x = .own id (.pt true cs) → Give st (.tmp t) [t, x] (.pt true cs) [(x, .dead)]
  | part {t x id k path dd sz cs} : st t = .als x id (k :: path) → st x = .own id dd → dd.nav (k :: path) = some (.sl true sz cs) → Give st (.tmp t) [t, x] (.sl true sz cs) [(x, .own id (dd.put (k :: path) .hole))]

theorem Give.agree {st st' : Nat → AV} {x : Operand} {rd : List Nat} {d : D} {up : List (Nat × AV)} (h : Give st x rd d up) (hs : ∀ s ∈ rd, st' s = st s) : Give st' x rd d up := by
  cases h with
  | lit h => exact .lit h
  | nil => exact .nil
  | c h => exact .c ((hs _ (by simp)).trans h)
  | own h => exact .own ((hs _ (by simp)).trans h)
  | als h1 h2 => exact .als ((hs _ (by simp)).trans h1) ((hs _ (by simp)).trans h2)
  | ptr h1 h2 => exact .ptr ((hs _ (by simp)).trans h1) ((hs _ (by simp)).trans h2)
  | part h1 h2 h3 => exact .part ((hs _ (by simp)).trans h1) ((hs _ (by simp)).trans h2) h3

theorem RepM.give (h : RepM f X st a w ρ L M) {x : Operand} {rd : List Nat} {d : D} {up : List (Nat × AV)} (hg : Give st x rd d up) :
    ∃ r L' M1, RepM f X (puts st up) a w ρ L' (M ++ M1) ∧ RD f.F w d r (a.eval x) M1 := by
  cases hg with
  | @lit v hv => exact ⟨fun _ => undef, L, [], by simpa [puts] using h, by simp only [RD]; exact ⟨rfl, hv, trivial⟩⟩
  | @nil sz => exact ⟨fun _ => .slice none 0 0, L, [], by simpa [puts] using h, by simp only [RD]; exact ⟨rfl, [], [], [], rfl, .inl ⟨rfl, rfl, rfl⟩, by simp [RDs]⟩⟩
  | @c t d ht =>
    have := h.rep.slots t
    rw [ht] at this
    simp only [SR] at this
    obtain ⟨_, r, hr⟩ := this
    exact ⟨r, L, [], by simpa [puts] using h, hr⟩
  | @own t id d ht =>
    have := h.rep.slots t
    rw [ht] at this
    simp only [SR] at this
    exact ⟨_, _, L t, h.detach t .dead [] (L t) (by simp only [SR]) (by simp [AV.ids]) (fun g hg => by simpa using hg) List.nodup_nil (h.rep.nodup t) (by simp), this⟩
  | @als t x id sz cs ht hx =>
    have h1 := h.rep.slots t
    rw [ht] at h1
    simp only [SR] at h1
    have h2 := h.rep.slots x
    rw [hx] at h2
    simp only [SR] at h2
    have e : a.eval (.tmp t) = tmp a x := by
      have e1 : a.eval (.tmp t) = ρ id [] := h1.2
      rw [e1]
      simp only [RD] at h2
      exact h2.1.symm
    rw [e]
    exact ⟨_, _, L x, h.detach x .dead [] (L x) (by simp only [SR]) (by simp [AV.ids]) (fun g hg => by simpa using hg) List.nodup_nil (h.rep.nodup x) (by simp), h2⟩
  | @ptr t x id cs ht hx =>
    have h1 := h.rep.slots t
    rw [ht] at h1
    simp only [SR] at h1
    obtain ⟨_, b, hb, h1⟩ := h1
    have h2 := h.rep.slots x
    rw [hx] at h2
    simp only [SR] at h2
    have e : a.eval (.tmp t) = tmp a x := by
      have e1 : a.eval (.tmp t) = _ := h1
      rw [e1]
      simp only [RD] at h2
      obtain ⟨e2, g, us, L1, ty, e3, _⟩ := h2
      rw [← e2, e3] at hb
      simp only [baseOf, Option.some.injEq] at hb
      rw [e3, ← hb]
      rfl
    rw [e]
    exact ⟨_, _, L x, h.detach x .dead [] (L x) (by simp only [SR]) (by simp [AV.ids]) (fun g hg => by simpa using hg) List.nodup_nil (h.rep.nodup x) (by simp), h2⟩
  | @part t x id k path dd sz cs ht hx hn =>
    have h1 := h.rep.slots t
    have hi := h.rep.ids x
    rw [ht] at h1
    rw [hx] at hi
    simp only [SR] at h1
    obtain ⟨v1, A, L1, B, eL, h3, hset⟩ := h.rep.part hx hn
    have hv1 : v1 = ρ id (k :: path) := by
      have := h3
      simp only [RD] at this
      rw [this.1, Rho.sub_nil]
    have e : a.eval (.tmp t) = v1 := by rw [hv1]; exact h1.2
    have hfin := hset w .hole ((ρ id).sub (k :: path)) [] (fun _ _ => rfl) (fun _ _ => rfl) (by simp only [RD]; exact ⟨by rw [Rho.sub_nil]; exact hv1, h3.one, trivial⟩)
    rw [Rho.set_sub] at hfin
    have hnd := h.rep.nodup x
    rw [eL] at hnd
    simp only [List.nodup_append, List.mem_append] at hnd
    rw [e]
    refine ⟨_, _, L1, h.detach x (.own id (dd.put (k :: path) .hole)) (A ++ ([] ++ B)) L1 (by simp only [SR]; exact hfin) (by simpa [AV.ids] using hi) (fun g hg => ?_) ?_ hnd.2.1.1 (fun g hg hg' => ?_), h3⟩
    · rw [eL]; simp only [List.nil_append, List.mem_append] at hg ⊢; grind
    · simp only [List.nil_append, List.nodup_append]; grind
    · simp only [List.nil_append, List.mem_append] at hg; grind

/-- Several operands are handed over, one after the other. -/
inductive Gives : (Nat → AV) → List Operand → List Nat → List D → List (Nat × AV) → Prop
  | nil {s0 : Nat → AV} : Gives s0 [] [] [] []
  | cons {s0 : Nat → AV} {x : Operand} {xs : List Operand} {rd rds : List Nat} {d : D} {ds : List D} {up ups : List (Nat × AV)} : Give s0 x rd d up → Gives (puts s0 up) xs rds ds ups → Gives s0 (x :: xs) (rd ++ rds) (d :: ds) (up ++ ups)

theorem puts_append (st : Nat → AV) (u v : List (Nat × AV)) : puts st (u ++ v) = puts (puts st u) v := by
  induction u generalizing st with
  | nil => rfl
  | cons p u ih => obtain ⟨d, x⟩ := p; simp [puts, ih]

theorem puts_agree {st st' : Nat → AV} : ∀ (up : List (Nat × AV)) (s : Nat), st' s = st s → puts st' up s = puts st up s
  | [], s, h => h
  | (d, v) :: up, s, h => by
    simp only [puts]
    refine puts_agree up s ?_
    by_cases e : s = d
    · subst e; simp [put_same]
    · simp [put_other _ _ _ _ e, h]

theorem Gives.agree : ∀ {st st' : Nat → AV} {xs : List Operand} {rd : List Nat} {ds : List D} {up : List (Nat × AV)}, Gives st xs rd ds up → (∀ s ∈ rd, st' s = st s) → Gives st' xs rd ds up
  | _, _, _, _, _, _, .nil, _ => .nil
  | _, _, _, _, _, _, .cons h1 h2, hs => .cons (h1.agree fun s hs' => hs s (by simp [hs'])) (Gives.agree h2 fun s hs' => puts_agree _ _ (hs s (by simp [hs'])))

theorem RepM.gives : ∀ {st : Nat → AV} {L : Nat → List Nat} {M : List Nat}, RepM f X st a w ρ L M → ∀ {xs : List Operand} {rd : List Nat} {ds : List D} {up : List (Nat × AV)}, Gives st xs rd ds up → ∀ k : Nat,
    ∃ r L' M1, RepM f X (puts st up) a w ρ L' (M ++ M1) ∧ RDs f.F w ds k r (xs.map a.eval) M1
  | st, L, M, h, _, _, _, _, .nil, k => ⟨fun _ => undef, L, [], by simpa [puts] using h, by simp [RDs]⟩
  | st, L, M, h, _, _, _, _, .cons (x := x) (xs := xs) (d := d) (ds := ds) h1 h2, k => by
    obtain ⟨r1, L1, M1, hm1, hr1⟩ := h.give h1
    obtain ⟨r2, L2, M2, hm2, hr2⟩ := RepM.gives hm1 h2 (k + 1)
    refine ⟨(fun π => match π with | [] => undef | j :: q => if j = k then r1 q else r2 (j :: q)), L2, M1 ++ M2, ?_, ?_⟩
    · rw [puts_append, ← List.append_assoc]; exact hm2
    · simp only [List.map_cons, RDs]
      refine ⟨_, _, M1, M2, rfl, rfl, ?_, ?_⟩
      · refine RD.rho d r1 _ _ M1 hr1 (fun π => by simp [Rho.at])
      · refine RDs.rho ds (k + 1) r2 _ _ M2 hr2 (fun j hj => ?_)
        funext π
        simp [Rho.at, show j ≠ k from by omega]

end
end Go.Pv
