/- A slice made longer. No condition. -/
import Derived.Test.YtpeioofkihpldaaDoorNPvD
set_option linter.unusedVariables false
set_option linter.unusedSimpArgs false
namespace Go.Pv
open Go.RowKit
structure RepM (f : Fr) (X : Nat → Prop) (st : Nat → AV) (a : Act) (w : World) (ρ : Nat → Rho) (L : Nat → List Nat) (M : List Nat) : Prop where
 rep : RepO f X st a w ρ L
 nd : M.Nodup
 disj : ∀ t, ∀ g ∈ L t, g ∉ M
 bound : ∀ g ∈ M, g < w.heap.size ∧ ¬ f.F g
 mine : ∀ g ∈ M, g ∈ f.M ∨ f.w0.heap.size ≤ g
section
variable {P : Program} {n : NN} {nid : Nat} {st : Nat → AV} {f : Fr} {X : Nat → Prop} {a : Act} {w : World} {ρ : Nat → Rho} {L : Nat → List Nat} {M : List Nat}
theorem RepO.toM (h : RepO f X st a w ρ L) : RepM f X st a w ρ L [] := ⟨h, List.nodup_nil, by simp, by simp, by simp⟩
theorem RepM.step (h : RepM f X st a w ρ L M) (T : Nat → Prop) (Mw : List Nat) (X' : Nat → Prop) (st' : Nat → AV) (a' : Act) (w' : World) (ρ' : Nat → Rho) (L' : Nat → List Nat)
  (hd : a'.defers = a.defers) (hsize : a'.tmps.size = a.tmps.size) (hH : ∀ t, f.N t = false → tmp a' t = tmp a t) (hk : Keep w Mw w') (hM : ∀ g ∈ Mw, (∃ t, T t ∧ g ∈ L t) ∨ g ∈ M) (hρ : ∀ i, X i → ρ' i = ρ i)
  (hsame : ∀ t, ¬ T t → st' t = st t ∧ tmp a' t = tmp a t ∧ L' t = L t)
  (hnew : ∀ t, T t → SR f.F w' ρ' (st' t) (tmp a' t) (L' t) ∧ (L' t).Nodup ∧ ∀ g ∈ L' t, g < w'.heap.size ∧ ((∃ u, T u ∧ g ∈ L u) ∨ g ∈ M ∨ w.heap.size ≤ g))
  (hdisj : ∀ t u, T t → T u → t ≠ u → ∀ g ∈ L' t, g ∉ L' u)
  (hX : ∀ i, X i → X' i) (hids : ∀ t, T t → ∀ i ∈ (st' t).ids, X' i) : RepO f X' st' a' w' ρ' L' := by
 have h0 := h.rep
 have hF : ∀ g, f.F g → Same w w' g := fun g hg => hk.block g (h0.F_lt hg) (fun hm => by
  rcases hM g hm with ⟨t, _, ht⟩ | ht
  ·exact (h0.bound t g ht).2 hg
  ·exact (h.bound g ht).2 hg)
 have hL : ∀ t, ¬ T t → ∀ g ∈ L t, Same w w' g := fun t ht g hg => hk.block g (h0.bound t g hg).1 (fun hm => by
  rcases hM g hm with ⟨u, hu, hgu⟩ | hgu
  ·exact h0.disj t u (by rintro rfl; exact ht hu) g hg hgu
  ·exact h.disj t g hg hgu)
 refine ⟨hd.trans h0.defers, fun d hd => by rw [hsize]; exact h0.size d hd, fun q hq => ⟨(h0.hold q hq).1, (hH _ (h0.hold q hq).1).trans (h0.hold q hq).2⟩, h0.keep.trans hk (fun g hg hlt => ?_), fun t => ?_, fun t => ?_, fun t u htu g hg hgu => ?_, fun t g hg => ?_, fun t i hi => ?_, fun t g hg => ?_, fun q hq => ⟨hX _ (h0.names q hq).1, (hρ _ (h0.names q hq).1).trans (h0.names q hq).2⟩⟩
 ·have hmine : g ∈ f.M ∨ f.w0.heap.size ≤ g := by
   rcases hM g hg with ⟨t, _, ht⟩ | ht
   ·exact h0.mine t g ht
   ·exact h.mine g ht
  rcases hmine with hm | hm
  ·exact hm
  ·omega
 ·by_cases ht : T t
  ·exact (hnew t ht).1
  ·obtain ⟨e1, e2, e3⟩ := hsame t ht
   rw [e1, e2, e3]
   exact SR.same (fun _ h => h) hF _ _ _ (h0.slots t) (hL t ht) (fun i hi => hρ i (h0.ids t i hi))
 ·by_cases ht : T t
  ·exact (hnew t ht).2.1
  ·rw [(hsame t ht).2.2]; exact h0.nodup t
 ·by_cases ht : T t <;> by_cases hu : T u
  ·exact hdisj t u ht hu htu g hg hgu
  ·rw [(hsame u hu).2.2] at hgu
   rcases ((hnew t ht).2.2 g hg).2 with ⟨v, hv, hgv⟩ | hgm | hge
   ·exact h0.disj v u (by rintro rfl; exact hu hv) g hgv hgu
   ·exact h.disj u g hgu hgm
   ·have := (h0.bound u g hgu).1; omega
  ·rw [(hsame t ht).2.2] at hg
   rcases ((hnew u hu).2.2 g hgu).2 with ⟨v, hv, hgv⟩ | hgm | hge
   ·exact h0.disj v t (by rintro rfl; exact ht hv) g hgv hg
   ·exact h.disj t g hg hgm
   ·have := (h0.bound t g hg).1; omega
  ·rw [(hsame t ht).2.2] at hg
   rw [(hsame u hu).2.2] at hgu
   exact h0.disj t u htu g hg hgu
 ·by_cases ht : T t
  ·refine ⟨((hnew t ht).2.2 g hg).1, fun hf => ?_⟩
   rcases ((hnew t ht).2.2 g hg).2 with ⟨v, hv, hgv⟩ | hgm | hge
   ·exact (h0.bound v g hgv).2 hf
   ·exact (h.bound g hgm).2 hf
   ·have := h0.F_lt hf; omega
  ·rw [(hsame t ht).2.2] at hg
   exact ⟨Nat.lt_of_lt_of_le (h0.bound t g hg).1 hk.size, (h0.bound t g hg).2⟩
 ·by_cases ht : T t
  ·exact hids t ht i hi
  ·rw [(hsame t ht).1] at hi
   exact hX i (h0.ids t i hi)
 ·by_cases ht : T t
  ·rcases ((hnew t ht).2.2 g hg).2 with ⟨v, hv, hgv⟩ | hgm | hge
   ·exact h0.mine v g hgv
   ·exact h.mine g hgm
   ·exact .inr (Nat.le_trans h0.keep.size hge)
  ·rw [(hsame t ht).2.2] at hg
   exact h0.mine t g hg
theorem RepM.put_root {K : Act → World → Prop} (h : RepM f X st a w ρ L M) {d id : Nat} {D1 : D} (hK : ∀ a' w', Rep f (fun i => X i ∨ i = id) (put st d (.own id D1)) a' w' → K a' w') (hd : f.N d = true) (hid : ¬ X id) (v : Value) (w' : World) (Mw : List Nat) (hMw : ∀ g ∈ Mw, g ∈ M) (hk : Keep w Mw w') (r : Rho) (L1 : List Nat)
  (hv : RD f.F w' D1 r v L1) (hn : L1.Nodup) (hL : ∀ g ∈ L1, g < w'.heap.size ∧ (g ∈ M ∨ w.heap.size ≤ g)) : K (a.put (some d) v) w' := by
 refine hK _ _ ⟨fun i => if i = id then r else ρ i, fun t => if t = d then L1 else L t, ?_⟩
 refine h.step (fun t => t = d) Mw _ _ _ w' _ _ (put_defers _ _ _) (put_size _ _ _) (hold_put _ hd) hk (fun g hg => .inr (hMw g hg)) (fun i hi => by rw [if_neg (by rintro rfl; exact hid hi)]) (fun t ht => ⟨put_other _ _ _ _ ht, tmp_put_other _ _ _ _ ht, by simp [ht]⟩) (fun t ht => ?_) (fun t u ht hu hne => absurd (ht.trans hu.symm) hne) (fun _ h => .inl h) (fun t ht i hi => ?_)
 ·subst ht
  rw [put_same, tmp_put_same _ _ _ (h.rep.size _ hd), if_pos rfl]
  refine ⟨?_, hn, fun g hg => ⟨(hL g hg).1, .inr (hL g hg).2⟩⟩
  simp only [SR, if_true]
  exact hv
 ·subst ht; rw [put_same] at hi; simp only [AV.ids, List.mem_singleton] at hi; exact .inr hi
theorem RepM.put_raw {K : Act → World → Prop} (h : RepM f X st a w ρ L M) {d id : Nat} {av : AV} (hK : ∀ a' w', Rep f (fun i => X i ∨ i = id) (put st d av) a' w' → K a' w') (hd : f.N d = true) (v : Value) (w' : World) (Mw : List Nat) (hMw : ∀ g ∈ Mw, g ∈ M) (hk : Keep w Mw w') (L1 : List Nat)
  (hv : SR f.F w' ρ av v L1) (hn : L1.Nodup) (hL : ∀ g ∈ L1, g < w'.heap.size ∧ (g ∈ M ∨ w.heap.size ≤ g)) (hids : ∀ i ∈ av.ids, X i) : K (a.put (some d) v) w' := by
 refine hK _ _ ⟨ρ, fun t => if t = d then L1 else L t, ?_⟩
 refine h.step (fun t => t = d) Mw _ _ _ w' _ _ (put_defers _ _ _) (put_size _ _ _) (hold_put _ hd) hk (fun g hg => .inr (hMw g hg)) (fun i hi => rfl) (fun t ht => ⟨put_other _ _ _ _ ht, tmp_put_other _ _ _ _ ht, by simp [ht]⟩) (fun t ht => ?_) (fun t u ht hu hne => absurd (ht.trans hu.symm) hne) (fun _ h => .inl h) (fun t ht i hi => ?_)
 ·subst ht
  rw [put_same, tmp_put_same _ _ _ (h.rep.size _ hd), if_pos rfl]
  exact ⟨hv, hn, fun g hg => ⟨(hL g hg).1, .inr (hL g hg).2⟩⟩
 ·subst ht; rw [put_same] at hi; exact .inl (hids i hi)
theorem RepM.detach (h : RepM f X st a w ρ L M) (x : Nat) (av : AV) (Lx M1 : List Nat) (hsr : SR f.F w ρ av (tmp a x) Lx) (hids : ∀ i ∈ av.ids, X i)
  (hp : ∀ g, (g ∈ Lx ∨ g ∈ M1) → g ∈ L x) (hn : Lx.Nodup) (hm : M1.Nodup) (hdis : ∀ g ∈ Lx, g ∉ M1) :
  RepM f X (put st x av) a w ρ (fun t => if t = x then Lx else L t) (M ++ M1) := by
 have h0 := h.rep
 refine ⟨?_, ?_, fun t g hg => ?_, fun g hg => ?_, fun g hg => ?_⟩
 ·refine h0.step (fun t => t = x) [] X _ a w ρ _ rfl rfl (fun _ _ => rfl) (Keep.refl w) (by simp) (fun _ _ => rfl) (fun t ht => ⟨put_other _ _ _ _ ht, rfl, by simp [ht]⟩) (fun t ht => ?_) (fun t u ht hu hne => absurd (ht.trans hu.symm) hne) (fun _ h => h) (fun t ht i hi => ?_)
  ·subst ht
   rw [put_same, if_pos rfl]
   exact ⟨hsr, hn, fun g hg => ⟨(h0.bound t g (hp g (.inl hg))).1, .inl ⟨t, rfl, hp g (.inl hg)⟩⟩⟩
  ·subst ht; rw [put_same] at hi; exact hids i hi
 ·rw [List.nodup_append]
  exact ⟨h.nd, hm, fun g hg g' hg' e => h.disj x g' (hp g' (.inr hg')) (e ▸ hg)⟩
 ·rw [List.mem_append, not_or]
  by_cases ht : t = x
  ·subst ht
   rw [if_pos rfl] at hg
   exact ⟨h.disj t g (hp g (.inl hg)), hdis g hg⟩
  ·rw [if_neg ht] at hg
   exact ⟨h.disj t g hg, fun hg' => h0.disj t x ht g hg (hp g (.inr hg'))⟩
 ·rw [List.mem_append] at hg
  rcases hg with hg | hg
  ·exact h.bound g hg
  ·exact h0.bound x g (hp g (.inr hg))
 ·rw [List.mem_append] at hg
  rcases hg with hg | hg
  ·exact h.mine g hg
  ·exact h0.mine x g (hp g (.inr hg))
inductive Give (st : Nat → AV) : Operand → List Nat → D → List (Nat × AV) → Prop
 | lit {v} : v.oneCell' = true → Give st (.const v) [] (.lit v) []
 | nil {sz} : Give st (.const (.slice none 0 0)) [] (.sl true sz []) []
 | c {t d} : st t = .c d → Give st (.tmp t) [t] d []
 | own {t id d} : st t = .own id d → Give st (.tmp t) [t] d [(t, .dead)]
 | als {t x id sz cs} : st t = .als x id [] → st x = .own id (.sl true sz cs) → Give st (.tmp t) [t, x] (.sl true sz cs) [(x, .dead)]
 | ptr {t x id cs} : st t = .ptr x id [] 0 → st x = .own id (.pt true cs) → Give st (.tmp t) [t, x] (.pt true cs) [(x, .dead)]
 | part {t x id k path dd sz cs} : st t = .als x id (k :: path) → st x = .own id dd → dd.nav (k :: path) = some (.sl true sz cs) → Give st (.tmp t) [t, x] (.sl true sz cs) [(x, .own id (dd.put (k :: path) .hole))]
theorem Give.agree {st st' : Nat → AV} {x : Operand} {rd : List Nat} {d : D} {up : List (Nat × AV)} (h : Give st x rd d up) (hs : ∀ s ∈ rd, st' s = st s) : Give st' x rd d up := by
 cases h with
 | lit h => exact .lit h
 | nil => exact .nil
 | c h => exact .c ((hs _ (by simp)).trans h)
 | own h => exact .own ((hs _ (by simp)).trans h)
 | als h1 h2 => exact .als ((hs _ (by simp)).trans h1) ((hs _ (by simp)).trans h2)
 | ptr h1 h2 => exact .ptr ((hs _ (by simp)).trans h1) ((hs _ (by simp)).trans h2)
 | part h1 h2 h3 => exact .part ((hs _ (by simp)).trans h1) ((hs _ (by simp)).trans h2) h3
theorem RepM.give (h : RepM f X st a w ρ L M) {x : Operand} {rd : List Nat} {d : D} {up : List (Nat × AV)} (hg : Give st x rd d up) :
  ∃ r L' M1, RepM f X (puts st up) a w ρ L' (M ++ M1) ∧ RD f.F w d r (a.eval x) M1 := by
 cases hg with
 | @lit v hv => exact ⟨fun _ => undef, L, [], by simpa [puts] using h, by simp only [RD]; exact ⟨rfl, hv, trivial⟩⟩
 | @nil sz => exact ⟨fun _ => .slice none 0 0, L, [], by simpa [puts] using h, by simp only [RD]; exact ⟨rfl, [], [], [], rfl, .inl ⟨rfl, rfl, rfl⟩, by simp [RDs]⟩⟩
 | @c t d ht =>
  have := h.rep.slots t
  rw [ht] at this
  simp only [SR] at this
  obtain ⟨_, r, hr⟩ := this
  exact ⟨r, L, [], by simpa [puts] using h, hr⟩
 | @own t id d ht =>
  have := h.rep.slots t
  rw [ht] at this
  simp only [SR] at this
  exact ⟨_, _, L t, h.detach t .dead [] (L t) (by simp only [SR]) (by simp [AV.ids]) (fun g hg => by simpa using hg) List.nodup_nil (h.rep.nodup t) (by simp), this⟩
 | @als t x id sz cs ht hx =>
  have h1 := h.rep.slots t
  rw [ht] at h1
  simp only [SR] at h1
  have h2 := h.rep.slots x
  rw [hx] at h2
  simp only [SR] at h2
  have e : a.eval (.tmp t) = tmp a x := by
   have e1 : a.eval (.tmp t) = ρ id [] := h1.2
   rw [e1]
   simp only [RD] at h2
   exact h2.1.symm
  rw [e]
  exact ⟨_, _, L x, h.detach x .dead [] (L x) (by simp only [SR]) (by simp [AV.ids]) (fun g hg => by simpa using hg) List.nodup_nil (h.rep.nodup x) (by simp), h2⟩
 | @ptr t x id cs ht hx =>
  have h1 := h.rep.slots t
  rw [ht] at h1
  simp only [SR] at h1
  obtain ⟨_, b, hb, h1⟩ := h1
  have h2 := h.rep.slots x
  rw [hx] at h2
  simp only [SR] at h2
  have e : a.eval (.tmp t) = tmp a x := by
   have e1 : a.eval (.tmp t) = _ := h1
   rw [e1]
   simp only [RD] at h2
   obtain ⟨e2, g, us, L1, ty, e3, _⟩ := h2
   rw [← e2, e3] at hb
   simp only [baseOf, Option.some.injEq] at hb
   rw [e3, ← hb]
   rfl
  rw [e]
  exact ⟨_, _, L x, h.detach x .dead [] (L x) (by simp only [SR]) (by simp [AV.ids]) (fun g hg => by simpa using hg) List.nodup_nil (h.rep.nodup x) (by simp), h2⟩
 | @part t x id k path dd sz cs ht hx hn =>
  have h1 := h.rep.slots t
  have hi := h.rep.ids x
  rw [ht] at h1
  rw [hx] at hi
  simp only [SR] at h1
  obtain ⟨v1, A, L1, B, eL, h3, hset⟩ := h.rep.part hx hn
  have hv1 : v1 = ρ id (k :: path) := by
   have := h3
   simp only [RD] at this
   rw [this.1, Rho.sub_nil]
  have e : a.eval (.tmp t) = v1 := by rw [hv1]; exact h1.2
  have hfin := hset w .hole ((ρ id).sub (k :: path)) [] (fun _ _ => rfl) (fun _ _ => rfl) (by simp only [RD]; exact ⟨by rw [Rho.sub_nil]; exact hv1, h3.one, trivial⟩)
  rw [Rho.set_sub] at hfin
  have hnd := h.rep.nodup x
  rw [eL] at hnd
  simp only [List.nodup_append, List.mem_append] at hnd
  rw [e]
  refine ⟨_, _, L1, h.detach x (.own id (dd.put (k :: path) .hole)) (A ++ ([] ++ B)) L1 (by simp only [SR]; exact hfin) (by simpa [AV.ids] using hi) (fun g hg => ?_) ?_ hnd.2.1.1 (fun g hg hg' => ?_), h3⟩
  ·rw [eL]; simp only [List.nil_append, List.mem_append] at hg ⊢; grind
  ·simp only [List.nil_append, List.nodup_append]; grind
  ·simp only [List.nil_append, List.mem_append] at hg; grind
inductive Gives : (Nat → AV) → List Operand → List Nat → List D → List (Nat × AV) → Prop
 | nil {s0 : Nat → AV} : Gives s0 [] [] [] []
 | cons {s0 : Nat → AV} {x : Operand} {xs : List Operand} {rd rds : List Nat} {d : D} {ds : List D} {up ups : List (Nat × AV)} : Give s0 x rd d up → Gives (puts s0 up) xs rds ds ups → Gives s0 (x :: xs) (rd ++ rds) (d :: ds) (up ++ ups)
theorem puts_append (st : Nat → AV) (u v : List (Nat × AV)) : puts st (u ++ v) = puts (puts st u) v := by
 induction u generalizing st with
 | nil => rfl
 | cons p u ih => obtain ⟨d, x⟩ := p; simp [puts, ih]
theorem puts_agree {st st' : Nat → AV} : ∀ (up : List (Nat × AV)) (s : Nat), st' s = st s → puts st' up s = puts st up s
 | [], s, h => h
 | (d, v) :: up, s, h => by
  simp only [puts]
  refine puts_agree up s ?_
  by_cases e : s = d
  ·subst e; simp [put_same]
  ·simp [put_other _ _ _ _ e, h]
theorem Gives.agree : ∀ {st st' : Nat → AV} {xs : List Operand} {rd : List Nat} {ds : List D} {up : List (Nat × AV)}, Gives st xs rd ds up → (∀ s ∈ rd, st' s = st s) → Gives st' xs rd ds up
 | _, _, _, _, _, _, .nil, _ => .nil
 | _, _, _, _, _, _, .cons h1 h2, hs => .cons (h1.agree fun s hs' => hs s (by simp [hs'])) (Gives.agree h2 fun s hs' => puts_agree _ _ (hs s (by simp [hs'])))
theorem RepM.gives : ∀ {st : Nat → AV} {L : Nat → List Nat} {M : List Nat}, RepM f X st a w ρ L M → ∀ {xs : List Operand} {rd : List Nat} {ds : List D} {up : List (Nat × AV)}, Gives st xs rd ds up → ∀ k : Nat,
  ∃ r L' M1, RepM f X (puts st up) a w ρ L' (M ++ M1) ∧ RDs f.F w ds k r (xs.map a.eval) M1
 | st, L, M, h, _, _, _, _, .nil, k => ⟨fun _ => undef, L, [], by simpa [puts] using h, by simp [RDs]⟩
 | st, L, M, h, _, _, _, _, .cons (x := x) (xs := xs) (d := d) (ds := ds) h1 h2, k => by
  obtain ⟨r1, L1, M1, hm1, hr1⟩ := h.give h1
  obtain ⟨r2, L2, M2, hm2, hr2⟩ := RepM.gives hm1 h2 (k + 1)
  refine ⟨(fun π => match π with | [] => undef | j :: q => if j = k then r1 q else r2 (j :: q)), L2, M1 ++ M2, ?_, ?_⟩
  ·rw [puts_append, ← List.append_assoc]; exact hm2
  ·simp only [List.map_cons, RDs]
   refine ⟨_, _, M1, M2, rfl, rfl, ?_, ?_⟩
   ·refine RD.rho d r1 _ _ M1 hr1 (fun π => by simp [Rho.at])
   ·refine RDs.rho ds (k + 1) r2 _ _ M2 hr2 (fun j hj => ?_)
    funext π
    simp [Rho.at, show j ≠ k from by omega]
end
end Go.Pv
namespace Go.Pv
open Go.RowKit
section
variable {P : Program} {n : NN} {nid : Nat} {st : Nat → AV} {f : Fr} {X : Nat → Prop} {a : Act} {w : World} {ρ : Nat → Rho} {L : Nat → List Nat} {M : List Nat}
theorem alloc_new (w : World) (o : Obj) : (w.alloc o).heap[w.heap.size]? = some o := by
 show (w.heap.push o)[w.heap.size]? = some o
 simp
theorem oneCell_cells {v : Value} (h : v.oneCell' = true) : v.cells = #[v] := by cases v <;> simp [Value.oneCell'] at h <;> rfl
def AV.dat : AV → Option D
 | .c d => some d
 | .raw d => some d
 | _ => none
def AV.dats : List AV → Option (List D)
 | [] => some []
 | x :: l => match x.dat, AV.dats l with
  | some d, some ds => some (d :: ds)
  | _, _ => none
theorem SRs.dats {F : Nat → Prop} {w : World} {ρ : Nat → Rho} : ∀ (l : List AV) (ds : List D) (k : Nat) (vs : List Value) (L : List Nat), SRs F w ρ l vs L → AV.dats l = some ds → ∃ r, RDs F w ds k r vs L
 | [], ds, k, vs, L, h, hd => by
  simp only [AV.dats, Option.some.injEq] at hd
  subst hd
  simp only [SRs] at h
  exact ⟨fun _ => undef, by simpa only [RDs] using h⟩
 | x :: l, ds, k, vs, L, h, hd => by
  simp only [AV.dats] at hd
  cases hx : x.dat with
  | none => simp [hx] at hd
  | some d =>
   cases hl : AV.dats l with
   | none => simp [hx, hl] at hd
   | some ds' =>
    simp only [hx, hl, Option.some.injEq] at hd
    subst hd
    simp only [SRs] at h
    obtain ⟨v, vs', L1, L2, rfl, rfl, h1, h2⟩ := h
    obtain ⟨r2, h3⟩ := SRs.dats l ds' (k + 1) vs' L2 h2 hl
    have h4 : ∃ r1, RD F w d r1 v L1 := by
     cases x <;> simp [AV.dat] at hx
     ·subst hx; simp only [SR] at h1; obtain ⟨rfl, r, h1⟩ := h1; exact ⟨r, h1⟩
     ·subst hx; simp only [SR] at h1; exact h1
    obtain ⟨r1, h4⟩ := h4
    refine ⟨fun π => match π with | [] => undef | j :: q => if j = k then r1 q else r2 (j :: q), ?_⟩
    simp only [RDs]
    refine ⟨v, vs', L1, L2, rfl, rfl, RD.rho d r1 _ v L1 h4 (fun π => by simp [Rho.at]), RDs.rho ds' (k + 1) r2 _ vs' L2 h3 (fun j hj => ?_)⟩
    funext π
    simp [Rho.at, show j ≠ k from by omega]
theorem step_box_agg {d t : Nat} {T : TypeId} {l : List AV} {ds : List D} {ty pos aft g} (h : st t = .agg l) (hl : AV.dats l = some ds) (hd : n d = true) :
  Step P n ⟨some d, .box T (.tmp t), ty, pos, aft, g⟩ nid st [t] [(t, .dead), (d, .own nid (.pt true ds))] := by
 intro X st' hs hX f a w hn hrep K Q hK
 obtain ⟨ρ, L, hr⟩ := hrep
 subst hn
 have ht := hr.slots t
 rw [(hs t (by simp)).trans h] at ht
 simp only [SR] at ht
 obtain ⟨vs, e0, h1⟩ := ht
 obtain ⟨r, h2⟩ := h1.dats l ds 0 vs (L t) hl
 have hm := hr.toM.detach t .dead [] (L t) (by simp only [SR]) (by simp [AV.ids]) (fun g hg => by simpa using hg) List.nodup_nil (hr.nodup t) (by simp)
 rw [List.nil_append] at hm
 have hsame : ∀ g, g < w.heap.size → Same w (w.alloc (.cells vs.toArray T)) g := fun g hg => Below.heap_alloc w _ g hg
 refine wV_ (u := .pointer (some ⟨w.heap.size, 0, none⟩)) (w' := w.alloc (.cells vs.toArray T)) ?_
  (hm.put_root (K := K) (d := d) hK hd hX _ _ [] (by simp) (Keep.alloc w _) (fun π => match π with | [] => .pointer (some ⟨w.heap.size, 0, none⟩) | j :: q => r (j :: q)) (w.heap.size :: L t) ?_ ?_ ?_)
 ·have e1 : a.eval (.tmp t) = _ := e0
  simp only [execOp, Instr.box, newVar, newRow, e1, Value.cells, Sem.run_bind, run_newObj, Result.andThen_ok, Sem.run_pure]
  rfl
 ·simp only [RD]
  refine ⟨trivial, w.heap.size, vs, L t, T, rfl, rfl, alloc_new w _, ?_⟩
  exact RDs.rho ds 0 r _ vs _ (RDs.same (fun _ h => h) (fun g hg => hsame g (hr.F_lt hg)) ds 0 r vs _ h2 (fun g hg => hsame g (hr.bound t g hg).1)) (fun j _ => rfl)
 ·rw [List.nodup_cons]
  exact ⟨fun hg => by have := (hr.bound t _ hg).1; omega, hr.nodup t⟩
 ·intro g hg
  rw [List.mem_cons] at hg
  rcases hg with rfl | hg
  ·exact ⟨by simp, .inr (Nat.le_refl _)⟩
  ·exact ⟨by simp; have := (hr.bound t g hg).1; omega, .inl hg⟩
def ZeroD : Value → D → Prop
 | .slice none 0 0, .sl true _ [] => True
 | u, .lit v => v = u ∧ u.oneCell' = true
 | _, _ => False
inductive ZeroDs : List Value → List D → Prop
 | nil : ZeroDs [] []
 | cons {u d us ds} : ZeroD u d → ZeroDs us ds → ZeroDs (u :: us) (d :: ds)
class ZeroTy (P : Program) (T : TypeId) (ds : outParam (List D)) : Prop where
 out : ∃ i z, P.info? T = some i ∧ i.zero = some z ∧ ZeroDs z.cells.toList ds
theorem ZeroD.rd {F : Nat → Prop} {w : World} {u : Value} {d : D} (h : ZeroD u d) : RD F w d (fun _ => u) u [] := by
 unfold ZeroD at h
 split at h
 ·simp only [RD]; exact ⟨trivial, [], [], [], rfl, .inl ⟨rfl, rfl, rfl⟩, by simp [RDs]⟩
 ·simp only [RD]; exact ⟨h.1.symm, h.1 ▸ h.2, trivial⟩
 ·exact h.elim
theorem ZeroDs.rds {F : Nat → Prop} {w : World} : ∀ {us : List Value} {ds : List D} (k : Nat), ZeroDs us ds → ∃ r, RDs F w ds k r us []
 | _, _, k, .nil => ⟨fun _ => undef, by simp [RDs]⟩
 | _, _, k, .cons (u := u) (d := d) (us := us) (ds := ds) h1 h2 => by
  obtain ⟨r, h3⟩ := ZeroDs.rds (F := F) (w := w) (k + 1) h2
  refine ⟨fun π => match π with | [] => undef | j :: q => if j = k then u else r (j :: q), ?_⟩
  simp only [RDs]
  refine ⟨u, us, [], [], rfl, rfl, RD.rho d _ _ u [] h1.rd (fun π => by simp [Rho.at]), RDs.rho ds (k + 1) r _ us [] h3 (fun j hj => ?_)⟩
  funext π
  simp [Rho.at, show j ≠ k from by omega]
theorem step_alloc {d : Nat} {T : TypeId} {ds : List D} {ty pos aft g} [hz : ZeroTy P T ds] (hd : n d = true) :
  Step P n ⟨some d, .alloc T, ty, pos, aft, g⟩ nid st [] [(d, .own nid (.pt true ds))] := by
 intro X st' hs hX f a w hn hrep K Q hK
 obtain ⟨ρ, L, hr⟩ := hrep
 subst hn
 obtain ⟨i, z, t1, t2, t3⟩ := hz.out
 obtain ⟨r, h2⟩ := t3.rds (F := f.F) (w := w.alloc (.cells z.cells T)) 0
 refine wV_ (u := .pointer (some ⟨w.heap.size, 0, none⟩)) (w' := w.alloc (.cells z.cells T)) ?_
  (hr.done_new hK hd hX _ _ (Keep.alloc w _) (fun π => match π with | [] => .pointer (some ⟨w.heap.size, 0, none⟩) | j :: q => r (j :: q)) [w.heap.size] ?_ (by simp) (by simp))
 ·simp [execOp, Instr.alloc, zeroValue, typeInfo, t1, t2, newVar, newRow]
 ·simp only [RD]
  refine ⟨trivial, w.heap.size, z.cells.toList, [], T, rfl, rfl, by simpa using alloc_new w (.cells z.cells T), ?_⟩
  exact RDs.rho ds 0 r _ _ _ h2 (fun j _ => rfl)
theorem fill_ones : ∀ (vs : List Value) (k : Nat) (init : Array Value), (∀ v ∈ vs, v.oneCell' = true) → k + vs.length ≤ init.size →
  Instr.fill (fun i => some (i * 1, 1)) init (vs.zipIdx k |>.map fun p => (p.2, p.1)) = some (init.toList.take k ++ (vs ++ init.toList.drop (k + vs.length))).toArray
 | [], k, init, _, _ => by simp [Instr.fill]
 | v :: vs, k, init, h, hk => by
  simp only [List.length_cons] at hk
  simp only [List.zipIdx_cons, List.map_cons, Instr.fill, Nat.mul_one]
  have hc := oneCell_cells (h v (by simp))
  have h1 : ¬ (v.cells.size ≠ 1 ∨ k + v.cells.size > init.size) := by rw [hc]; simp; omega
  rw [if_neg (by simpa using h1)]
  have h2 : (v.cells.zipIdx.foldl (fun cs (x : Value × Nat) => cs.setIfInBounds (k + x.2) x.1) init) = init.setIfInBounds k v := by rw [hc]; simp
  have ih := fill_ones vs (k + 1) (init.setIfInBounds k v) (fun v hv => h v (by simp [hv])) (by simp; omega)
  simp only [Nat.mul_one] at ih
  rw [h2, ih]
  congr 2
  rw [Array.toList_setIfInBounds]
  apply List.ext_getElem?
  intro j
  simp only [List.getElem?_append, List.length_take, List.length_set, Array.length_toList, List.getElem?_take, List.getElem?_set, List.getElem?_drop, List.length_cons, List.getElem?_cons]
  grind
theorem ones_of {F : Nat → Prop} {w : World} : ∀ {ds : List D} {k : Nat} {r : Rho} {vs : List Value} {L : List Nat}, RDs F w ds k r vs L → ∀ v ∈ vs, v.oneCell' = true
 | [], _, _, _, _, h, v, hv => by simp only [RDs] at h; simp [h.1] at hv
 | d :: ds, k, r, vs, L, h, v, hv => by
  simp only [RDs] at h
  obtain ⟨u, us', L1, L2, rfl, rfl, h1, h2⟩ := h
  rw [List.mem_cons] at hv
  rcases hv with rfl | hv
  ·exact h1.one
  ·exact ones_of h2 v hv
theorem step_slice_lit {d len : Nat} {T : TypeId} {ps : Array (Nat × Operand)} {rd : List Nat} {ds : List D} {up : List (Nat × AV)} {ty pos aft g} [hT : SliceTy P T 1] (h : Gives st (ps.toList.map (·.2)) rd ds up) (hi : ps.toList.map (·.1) = List.range len) (hlen : len ≤ 1000) (hd : n d = true) :
  Step P n ⟨some d, .buildSlice T len ps, ty, pos, aft, g⟩ nid st rd (up ++ [(d, .own nid (.sl true 1 ds))]) := by
 intro X st' hs hX f a w hn hrep K Q hK
 obtain ⟨ρ, L, hr⟩ := hrep
 subst hn
 obtain ⟨r, L', M1, hm, hv⟩ := hr.toM.gives (h.agree hs) 0
 rw [puts_append] at hK
 rw [List.nil_append] at hm
 obtain ⟨e, i, z, t1, t2, t3, _, _, _, t4, t5⟩ := hT.out
 have hvl := hv.length
 have hvs := ones_of hv
 have hpl : ps.toList.length = len := by have := congrArg List.length hi; simpa using this
 generalize hus : (ps.toList.map (·.2)).map a.eval = us at *
 have hul : us.length = len := by rw [← hus]; simpa using hpl
 have hsame : ∀ g, g < w.heap.size → Same w (w.alloc (.cells us.toArray e)) g := fun g hg => Below.heap_alloc w _ g hg
 have hparts : ps.toList.map (fun x => (x.fst, a.eval x.snd)) = us.zipIdx.map fun p => (p.2, p.1) := by
  rw [← hus]
  apply List.ext_getElem?
  intro j
  have hj : (ps.toList.map (·.1))[j]? = (List.range len)[j]? := by rw [hi]
  simp only [List.getElem?_map, List.getElem?_zipIdx, Nat.zero_add] at hj ⊢
  cases hp : ps.toList[j]? with
  | none => simp
  | some p =>
   simp only [hp, Option.map_some] at hj ⊢
   have hlt : j < len := by rw [← hpl]; exact (List.getElem?_eq_some_iff.1 hp).1
   simp only [List.getElem?_range hlt, Option.some.injEq] at hj
   obtain ⟨p1, p2⟩ := p
   simp only at hj
   subst hj
   rfl
 have hrun : (Instr.buildSlice T len (ps.map fun (i, x) => (i, a.eval x))).run P w = .ok (.slice (some ⟨w.heap.size, 0, none⟩) len len) (w.alloc (.cells us.toArray e)) := by
  have hsz : ((Array.range (len * 1)).map (fun x => z.cells[x % z.cells.size]!)).size = len := by simp
  have hf := fill_ones us 0 ((Array.range (len * 1)).map (fun x => z.cells[x % z.cells.size]!)) hvs (by rw [hsz]; omega)
  have hz : List.drop (0 + us.length) ((Array.range (len * 1)).map (fun x => z.cells[x % z.cells.size]!)).toList = [] := by
   apply List.drop_eq_nil_of_le
   rw [Array.length_toList, hsz]; omega
  rw [hz] at hf
  simp only [List.take_zero, List.nil_append, List.append_nil] at hf
  have hle : ¬ (16777216 < len * 1) := by omega
  by_cases hz0 : len = 0
  ·subst hz0
   have : us = [] := List.eq_nil_of_length_eq_zero hul
   subst this
   simp [Instr.buildSlice, run_underlying t1, sizeOf, typeInfo, t2, hparts, Instr.fill, newRow, Array.range_zero']
  ·simp only [Nat.mul_one] at hf
   simp [Instr.buildSlice, run_underlying t1, sizeOf, typeInfo, zeroValue, t2, t3, t4, hparts, newRow, hz0, show ¬ (16777216 < len) from by omega, hf]
 refine wV_ (u := .slice (some ⟨w.heap.size, 0, none⟩) len len) (w' := w.alloc (.cells us.toArray e)) ?_
  (hm.put_root hK hd hX _ _ [] (by simp) (Keep.alloc w _) (fun π => match π with | [] => .slice (some ⟨w.heap.size, 0, none⟩) len len | j :: q => r (j :: q)) (w.heap.size :: M1) ?_ ?_ ?_)
 ·simp only [execOp, Sem.run_bind, hrun, Result.andThen_ok, Sem.run_pure]
 ·simp only [RD]
  refine ⟨trivial, us, [w.heap.size], M1, rfl, .mk0 ⟨w.heap.size, len, len, us.toArray, e, rfl, alloc_new w _, by omega, Nat.le_refl _, by unfold maxLen; omega, by simpa using hul, ?_, rfl⟩, ?_⟩
  ·exact List.take_of_length_le (by simp; omega)
  ·exact RDs.rho ds 0 r _ us M1 (RDs.same (fun _ h => h) (fun g hg => hsame g (hm.rep.F_lt hg)) ds 0 r us M1 hv (fun g hg => hsame g (hm.bound g hg).1)) (fun j _ => rfl)
 ·rw [List.nodup_cons]
  exact ⟨fun hg => by have := (hm.bound _ hg).1; omega, hm.nd⟩
 ·intro g hg
  rw [List.mem_cons] at hg
  rcases hg with rfl | hg
  ·exact ⟨by simp, .inr (Nat.le_refl _)⟩
  ·exact ⟨by simp; have := (hm.bound g hg).1; omega, .inl hg⟩
theorem step_assign_give {o : Oper} {d : Nat} {x : Operand} {dd : D} {rd : List Nat} {up : List (Nat × AV)} (hop : o.op = .assign x ∨ o.op = .move x) (hdst : o.dst = some d) (h : Give st x rd dd up) (hd : n d = true) :
  Step P n o nid st rd (up ++ [(d, .own nid dd)]) := by
 intro X st' hs hX f a w hn hrep K Q hK
 obtain ⟨ρ, L, hr⟩ := hrep
 subst hn
 obtain ⟨r, L', M1, hm, hv⟩ := hr.toM.give (h.agree hs)
 rw [puts_append] at hK
 rw [List.nil_append] at hm
 refine wV_ (u := a.eval x) (w' := w) ?_ ?_
 ·rcases hop with e | e <;> simp only [execOp, e] <;> rfl
 ·rw [hdst]
  exact hm.put_root hK hd hX _ _ [] (by simp) (Keep.refl w) r M1 hv hm.nd (fun g hg => ⟨(hm.bound g hg).1, .inl hg⟩)
theorem step_assign_take {d : Nat} {x : Operand} {dd : D} {rd : List Nat} {up : List (Nat × AV)} {ty pos aft g} (h : Give st x rd dd up) (hd : n d = true) :
  Step P n ⟨some d, .assign x, ty, pos, aft, g⟩ nid st rd (up ++ [(d, .own nid dd)]) := step_assign_give (.inl rfl) rfl h hd
end
end Go.Pv
namespace Go.Pv
open Go.RowKit
section
variable {P : Program} {n : NN} {nid : Nat} {st : Nat → AV} {f : Fr} {X : Nat → Prop} {a : Act} {w : World} {ρ : Nat → Rho} {L : Nat → List Nat} {M : List Nat}
theorem run_append_room' (w : World) (t ty e e' : TypeId) (i : TypeInfo) (ht : P.underlying t = some (.slice e)) (hi : P.info? e = some i)
  (g o sLen sCap : Nat) (cur : Array Value) (hg : w.heap[g]? = some (.cells cur e' (0, 0)))
  (b : Addr) (m c : Nat) (news : List Value) (hl : news.length = m * i.size) (hnews : ∀ j u, news[j]? = some u → w.cell? (b.add j) = some u) (h1 : ∀ u ∈ news, u.oneCell' = true)
  (hroom : sLen + m ≤ sCap) (hfit : o + sLen * i.size + news.length ≤ cur.size) :
  (Builtin.append_ #[t, t] ty #[.slice (some ⟨g, o, none⟩) sLen sCap, .slice (some b) m c]).run P w =
   .ok (.slice (some ⟨g, o, none⟩) (sLen + m) sCap) (w.setRow g (cur.toList.take (o + sLen * i.size) ++ news ++ cur.toList.drop (o + sLen * i.size + news.length)).toArray) := by
 have hf := run_firstCells_some (P := P) w i.size m b m c news hl hnews
 have hst := run_storeCells_at P g (o + sLen * i.size) e' news 0 cur w hg (by simpa using hfit) h1
 simp only [Nat.add_zero] at hst
 simp [Builtin.append_, run_underlying ht, sizeOf, typeInfo, hi, Builtin.lenOf, hroom, hf, addr_off, hst]
theorem run_append_zero {T ty : TypeId} {sz : Nat} [hT : SliceTy P T sz] (w : World) (v : Value) (us : List Value) (L0 : List Nat) (h : Row w v sz us L0) (a0 : Option Addr) (c : Nat) :
  (Builtin.append_ #[T, T] ty #[v, .slice a0 0 c]).run P w = .ok v w := by
 obtain ⟨e, i, z, t1, t2, t3, _⟩ := hT.out
 rcases h with ⟨rfl, _, _⟩ | ⟨g, o, n, cap, cur, e', rfl, h2, h3, h4, _⟩
 ·cases a0 <;> simp [Builtin.append_, run_underlying t1, sizeOf, typeInfo, t2, Builtin.lenOf, Builtin.firstCells, loadCells, loadCellsFrom]
 ·cases a0 <;> simp [Builtin.append_, run_underlying t1, sizeOf, typeInfo, t2, Builtin.lenOf, Builtin.firstCells, loadCells, loadCellsFrom, h4, storeCells]
theorem Keep.grow (w : World) (o : Obj) (M : List Nat) : Keep w M (w.drew.alloc o) :=
 ⟨rfl, rfl, rfl, by simp, fun g hg _ => Below.heap_alloc w.drew o g (by simpa using hg), fun _ => Nat.le_succ _⟩
theorem run_append_row {T ty : TypeId} {sz : Nat} [hT : SliceTy P T sz] (w : World) (v : Value) (us : List Value) (L0 : List Nat) (h : Row w v sz us L0) (a0 : Option Addr) (m c : Nat) (us2 : List Value) (hl : us2.length = m * sz)
  (hcells : us2 ≠ [] → ∃ b, a0 = some b ∧ ∀ (j : Nat) (u : Value), us2[j]? = some u → w.cell? (b.add j) = some u) (h1 : ∀ u ∈ us2, u.oneCell' = true) (hb : us.length + us2.length ≤ 1099511627776) :
  ∃ v' w' L0', (Builtin.append_ #[T, T] ty #[v, .slice a0 m c]).run P w = .ok v' w' ∧ Row w' v' sz (us ++ us2) L0' ∧ Keep w L0 w' ∧ (L0' = L0 ∨ (L0' = [w.heap.size] ∧ w.heap.size < w'.heap.size ∧ Keep w [] w')) := by
 obtain ⟨e, i, z, t1, t2, t3, t4, t5, t6, t7, t8⟩ := hT.out
 by_cases hne : us2 = []
 ·subst hne
  have hm : m = 0 := by
   simp only [List.length_nil] at hl
   rcases Nat.mul_eq_zero.1 hl.symm with h | h <;> omega
  subst hm
  exact ⟨v, w, L0, run_append_zero w v us L0 h a0 c, by simpa using h, ⟨rfl, rfl, rfl, Nat.le_refl _, fun _ _ _ => rfl, fun _ => Nat.le_refl _⟩, .inl rfl⟩
 ·obtain ⟨b, rfl, hc⟩ := hcells hne
  have hm0 : 0 < m := by
   rcases Nat.eq_zero_or_pos m with rfl | h
   ·simp at hl; exact absurd hl hne
   ·exact h
  have hml : m ≤ us2.length := by rw [hl]; exact Nat.le_mul_of_pos_right m t4
  subst t3
  have hgrown : ∀ (old : Nat) (nn : Nat), nn * i.size = us.length →
    Row (w.drew.alloc (.cells (us.toArray ++ us2.toArray ++ Builtin.zeroCells z.cells (grownCap w (nn + m) old e - (nn + m))) e)) (.slice (some ⟨w.heap.size, 0, none⟩) (nn + m) (grownCap w (nn + m) old e)) i.size (us ++ us2) [w.heap.size] := by
   intro old nn hnn
   have hge := grownCap_ge w (nn + m) old e
   have hnl : nn ≤ us.length := by rw [← hnn]; exact Nat.le_mul_of_pos_right nn t4
   have hcm : grownCap w (nn + m) old e ≤ maxLen := grownCap_le_maxLen w (nn + m) old e (by unfold maxLen; omega)
   refine .mk0 ⟨w.heap.size, _, _, _, e, rfl, alloc_new w.drew _, ?_, hge, hcm, ?_, ?_, rfl⟩
   ·rw [List.length_append, hl, Nat.add_mul, hnn]
   ·simp only [Array.size_append, List.size_toArray, size_zeroCells, t8, hl, ← hnn, ← Nat.add_mul]
    congr 1
    omega
   ·simp only [Array.toList_append, List.append_assoc]
    have : (nn + m) * i.size = (us ++ us2).length := by rw [List.length_append, hl, Nat.add_mul, hnn]
    rw [this, ← List.append_assoc]
    exact List.take_left
  rcases h with ⟨rfl, rfl, rfl⟩ | ⟨g, o, nn, cap, cur, e', rfl, h2, h3, h4, h5, h6, h7, rfl⟩
  ·have hbm : m * i.bytes ≤ 281474976710656 := Nat.le_trans (Nat.mul_le_mul_left m t6) (by omega)
   have hr := run_append_nil (P := P) w T ty e i z t1 t2 t7 b m c us2 hl hc hm0 (by omega) hbm
   have hg := hgrown 0 0 (by simp)
   simp only [Nat.zero_add, List.nil_append, Array.empty_append] at hg
   refine ⟨_, _, _, hr, hg, Keep.grow w _ _, .inr ⟨rfl, by simp, Keep.grow w _ _⟩⟩
  ·have hnl : nn ≤ us.length := by rw [← h3]; exact Nat.le_mul_of_pos_right nn t4
   by_cases hroom : nn + m ≤ cap
   ·have hfit : o + nn * i.size + us2.length ≤ cur.size := by rw [hl, Nat.add_assoc, ← Nat.add_mul]; exact Nat.le_trans (Nat.add_le_add_left (Nat.mul_le_mul_right _ hroom) _) h6
    have hr := run_append_room' (P := P) w T ty e e' i t1 t2 g o nn cap cur h2 b m c us2 hl hc h1 hroom hfit
    refine ⟨_, _, [g], hr, .inr ⟨g, o, nn + m, cap, _, e', rfl, setRow_heap w g cur _ e' _ h2, ?_, hroom, h5, ?_, ?_, rfl⟩, ⟨rfl, rfl, rfl, by simp, fun k _ hk => setRow_other w g k _ (by simpa using hk), fun _ => Nat.le_refl _⟩, .inl rfl⟩
    ·rw [List.length_append, hl, Nat.add_mul, h3]
    ·simp only [List.size_toArray, List.length_append, List.length_take, List.length_drop, Array.length_toList]
     omega
    ·have hle : o ≤ (cur.toList.take (o + nn * i.size)).length := by rw [List.length_take, Array.length_toList]; omega
     have e1 : (cur.toList.take (o + nn * i.size)).drop o = us := by rw [List.drop_take, Nat.add_sub_cancel_left]; exact h7
     rw [List.append_assoc, List.drop_append_of_le_length hle, e1, ← List.append_assoc]
     have : (nn + m) * i.size = (us ++ us2).length := by rw [List.length_append, hl, Nat.add_mul, h3]
     rw [this]
     exact List.take_left
   ·have holds : ∀ (j : Nat) (u : Value), us[j]? = some u → w.cell? ((⟨g, o, none⟩ : Addr).add j) = some u := by
     intro j u hu
     rw [addr_off]
     exact cell_off h2 h7 hu
    have hbm : (nn + m) * i.bytes ≤ 140737488355328 := Nat.le_trans (Nat.mul_le_mul_left (nn + m) t6) (by omega)
    have hr := run_append_grow (P := P) w T ty e i z t1 t2 t7 ⟨g, o, none⟩ nn cap us h3.symm holds b m c us2 hl hc (by omega) (by omega) (growslice_fits (by omega) hbm)
    exact ⟨_, _, _, hr, hgrown cap nn h3, Keep.grow w _ _, .inr ⟨rfl, by simp, Keep.grow w _ _⟩⟩
theorem RD.longer {F : Nat → Prop} {T ty : TypeId} {sz : Nat} [hT : SliceTy P T sz] (w : World) {cs ds : List D} {r1 : Rho} {v : Value} {M1 : List Nat} (h : RD F w (.sl true sz cs) r1 v M1) (hF : ∀ g, F g → g < w.heap.size)
  (a0 : Option Addr) (m c : Nat) (us2 : List Value) (hl : us2.length = m * sz) (hcells : us2 ≠ [] → ∃ b, a0 = some b ∧ ∀ (j : Nat) (u : Value), us2[j]? = some u → w.cell? (b.add j) = some u)
  {k : Nat} {r2 : Rho} {M2 : List Nat} (h2 : RDs F w ds k r2 us2 M2) (hb : cs.length + ds.length ≤ 1099511627776)
  (hnd : (M1 ++ M2).Nodup) (hlt : ∀ g ∈ M1 ++ M2, g < w.heap.size ∧ ¬ F g) :
  ∃ v' w' r' L1 Mw, (Builtin.append_ #[T, T] ty #[v, .slice a0 m c]).run P w = .ok v' w' ∧ (∀ g ∈ Mw, g ∈ M1) ∧ Keep w Mw w' ∧ RD F w' (.sl true sz (cs ++ ds)) r' v' L1 ∧ L1.Nodup ∧ ∀ g ∈ L1, g < w'.heap.size ∧ (g ∈ M1 ++ M2 ∨ w.heap.size ≤ g) := by
 simp only [RD] at h
 obtain ⟨rfl, us, L0, L2, rfl, h3, h4⟩ := h
 have hu1 := h4.length
 have hu2 := h2.length
 obtain ⟨v', w', L0', hr, hrow, hk, hL0⟩ := run_append_row (P := P) (T := T) (ty := ty) w _ us L0 h3 a0 m c us2 hl hcells (ones_of h2) (by rw [hu1, hu2]; exact hb)
 have hsame : ∀ g, g < w.heap.size → g ∉ L0 → Same w w' g := fun g hg hn => hk.block g hg hn
 have hnd' := hnd
 simp only [List.nodup_append, List.mem_append] at hnd
 have hsF : ∀ g, F g → Same w w' g := fun g hg => hsame g (hF g hg) (fun hm => (hlt g (by simp [hm])).2 hg)
 have hs2 : ∀ g, g ∈ L2 → Same w w' g := fun g hg => hsame g (hlt g (by simp [hg])).1 (fun hm => hnd.1.2.2 g hm g hg rfl)
 have hsM : ∀ g, g ∈ M2 → Same w w' g := fun g hg => hsame g (hlt g (by simp [hg])).1 (fun hm => hnd.2.2 g (.inl hm) g hg rfl)
 have e1 := RDs.same (F' := F) (fun _ h => h) hsF cs 0 r1 us L2 h4 hs2
 have e2 := RDs.same (F' := F) (fun _ h => h) hsF ds k r2 us2 M2 h2 hsM
 -- places of the new part
 have e2' : ∃ r3, RDs F w' ds (0 + cs.length) r3 us2 M2 := by
  have h5 := RDs.shift ds 0 k r2 us2 M2 (by rw [Nat.zero_add]; exact e2)
  exact ⟨_, RDs.unshift ds 0 cs.length _ us2 M2 h5⟩
 obtain ⟨r3, e3⟩ := e2'
 refine ⟨v', w', fun π => match π with | [] => v' | j :: q => if j < cs.length then r1 (j :: q) else r3 (j :: q), L0' ++ (L2 ++ M2), L0, hr, fun g hg => by simp [hg], hk, ?_, ?_, ?_⟩
 ·simp only [RD]
  refine ⟨trivial, us ++ us2, L0', L2 ++ M2, rfl, hrow, RDs.append cs ds 0 _ us us2 L2 M2 ?_ ?_⟩
  ·have : ∀ (cs' : List D) (k' : Nat) (us' : List Value) (L' : List Nat), k' + cs'.length ≤ cs.length → RDs F w' cs' k' r1 us' L' → RDs F w' cs' k' (fun π => match π with | [] => v' | j :: q => if j < cs.length then r1 (j :: q) else r3 (j :: q)) us' L' := by
    intro cs'
    induction cs' with
    | nil => intro k' us' L' _ h; simpa only [RDs] using h
    | cons d cs' ih =>
     intro k' us' L' hk' h
     simp only [RDs, List.length_cons] at h hk' ⊢
     obtain ⟨u, us'', A, B, rfl, rfl, f1, f2⟩ := h
     exact ⟨u, us'', A, B, rfl, rfl, RD.rho d _ _ u A f1 (fun π => by simp [Rho.at, show k' < cs.length from by omega]), ih (k' + 1) us'' B (by omega) f2⟩
   exact this cs 0 us L2 (by omega) e1
  ·refine RDs.rho ds _ r3 _ us2 M2 e3 (fun j hj => ?_)
   funext π
   simp [Rho.at, show ¬ j < cs.length from by omega]
 ·rcases hL0 with rfl | ⟨rfl, _⟩
  ·rw [← List.append_assoc]; exact hnd'
  ·simp only [List.cons_append, List.nil_append, List.nodup_cons, List.mem_append]
   refine ⟨fun h => ?_, ?_⟩
   ·rcases h with h | h
    ·have := (hlt _ (show w.heap.size ∈ (L0 ++ L2) ++ M2 by simp [h])).1; omega
    ·have := (hlt _ (show w.heap.size ∈ (L0 ++ L2) ++ M2 by simp [h])).1; omega
   ·rw [List.nodup_append]
    exact ⟨hnd.1.2.1, hnd.2.1, fun g hg g' hg' e => hnd.2.2 g (.inr hg) g' hg' e⟩
 ·intro g hg
  rcases hL0 with rfl | ⟨rfl, hlt', _⟩
  ·have hg' : g ∈ (L0' ++ L2) ++ M2 := by simpa using hg
   exact ⟨Nat.lt_of_lt_of_le (hlt g hg').1 hk.size, .inl hg'⟩
  ·simp only [List.cons_append, List.nil_append, List.mem_cons] at hg
   rcases hg with rfl | hg
   ·exact ⟨hlt', .inr (Nat.le_refl _)⟩
   ·have hg' : g ∈ (L0 ++ L2) ++ M2 := by simp only [List.mem_append] at hg ⊢; rcases hg with h | h <;> simp [h]
    exact ⟨Nat.lt_of_lt_of_le (hlt g hg').1 hk.size, .inl hg'⟩
def D.plain : D → Bool
 | .lit _ => true
 | _ => false
theorem RDs.plain {F F' : Nat → Prop} {w : World} : ∀ {ds : List D} {k : Nat} {r : Rho} {us : List Value}, RDs F w (D.erases ds) k r us [] → (∀ d ∈ ds, d.plain = true) → RDs F' w ds k r us []
 | [], _, _, _, h, _ => by simpa only [RDs, D.erases] using h
 | d :: ds, k, r, us, h, hp => by
  simp only [RDs, D.erases] at h ⊢
  obtain ⟨u, us', L1, L2, rfl, e, h1, h2⟩ := h
  simp only [List.nil_eq, List.append_eq_nil_iff] at e
  obtain ⟨rfl, rfl⟩ := e
  refine ⟨u, us', [], [], rfl, rfl, ?_, RDs.plain h2 (fun d hd => hp d (by simp [hd]))⟩
  have := hp d (by simp)
  cases d <;> simp [D.plain] at this
  simpa only [RD, D.erase] using h1
theorem step_append_view {d : Nat} {s x : Operand} {T : TypeId} {sz : Nat} {cs ds : List D} {rd rd2 : List Nat} {up : List (Nat × AV)} {ty pos aft g} [hT : SliceTy P T sz] (h : Give st s rd (.sl true sz cs) up) (hv : View (puts st up) x rd2 sz ds) (hp : ∀ c ∈ ds, c.plain = true) (hb : cs.length + ds.length ≤ 1099511627776) (hd : n d = true) :
  Step P n ⟨some d, .call ⟨.builtin .append, #[s, x], #[T, T]⟩, ty, pos, aft, g⟩ nid st (rd ++ rd2) (up ++ [(d, .own nid (.sl true sz (cs ++ ds)))]) := by
 intro X st' hs hX f a w hn hrep K Q hK
 obtain ⟨ρ, L, hr⟩ := hrep
 subst hn
 obtain ⟨r, L', M1, hm, hv1⟩ := hr.toM.give (h.agree fun s hs' => hs s (by simp [hs']))
 rw [puts_append] at hK
 rw [List.nil_append] at hm
 have hv' : View (puts st' up) x rd2 sz ds := hv.agree fun s hs' => puts_agree _ _ (hs s (by simp [hs']))
 obtain ⟨us, r2, ⟨a0, n0, c0, e0, h1, h2, h3, h4⟩, h5⟩ := hv'.read hm.rep
 obtain ⟨v', w', r', L1, Mw, hrun, hMw, hk, hRD, hnd, hL1⟩ := RD.longer (P := P) (T := T) (ty := ty) w hv1 (fun g hg => hm.rep.F_lt hg) a0 n0 c0 us h1.symm (fun hne => let ⟨b, e, _, hc⟩ := h4 hne; ⟨b, e, hc⟩) (RDs.plain (F' := f.F) h5 hp) hb (by simpa using hm.nd) (fun g hg => hm.bound g (by simpa using hg))
 refine wV_ (u := v') (w' := w') ?_ (hm.put_root hK hd hX _ _ Mw hMw hk r' L1 hRD hnd (fun g hg => by simpa using hL1 g hg))
 simp [execOp, resolve, invoke, builtin, e0, hrun]
theorem step_append_give {d : Nat} {s x : Operand} {T : TypeId} {sz : Nat} {cs ds : List D} {rd rd2 : List Nat} {up up2 : List (Nat × AV)} {ty pos aft g} [hT : SliceTy P T sz] (h : Give st s rd (.sl true sz cs) up) (hv : Give (puts st up) x rd2 (.sl true sz ds) up2) (hb : cs.length + ds.length ≤ 1099511627776) (hd : n d = true) :
  Step P n ⟨some d, .call ⟨.builtin .append, #[s, x], #[T, T]⟩, ty, pos, aft, g⟩ nid st (rd ++ rd2) ((up ++ up2) ++ [(d, .own nid (.sl true sz (cs ++ ds)))]) := by
 intro X st' hs hX f a w hn hrep K Q hK
 obtain ⟨ρ, L, hr⟩ := hrep
 subst hn
 obtain ⟨r, L', M1, hm, hv1⟩ := hr.toM.give (h.agree fun s hs' => hs s (by simp [hs']))
 rw [puts_append, puts_append] at hK
 rw [List.nil_append] at hm
 have hv' := hv.agree (st' := puts st' up) fun s hs' => puts_agree _ _ (hs s (by simp [hs']))
 obtain ⟨r2, L2, M2, hm2, hv2⟩ := hm.give hv'
 simp only [RD] at hv2
 obtain ⟨_, us, L0, L3, rfl, h1, h5⟩ := hv2
 have hsh : ∃ a0 n0 c0, a.eval x = .slice a0 n0 c0 ∧ us.length = n0 * sz ∧ (us ≠ [] → ∃ b, a0 = some b ∧ ∀ (j : Nat) (u : Value), us[j]? = some u → w.cell? (b.add j) = some u) := by
  obtain ⟨a0, n0, c0, e0, f1, f2, f3, f4⟩ := h1.shRow (fun g hg => (hm2.bound g (by simp [hg])).1)
  exact ⟨a0, n0, c0, e0, f1.symm, fun hne => let ⟨b, e, _, hc⟩ := f4 hne; ⟨b, e, hc⟩⟩
 obtain ⟨a0, n0, c0, e0, f1, f2⟩ := hsh
 have hnd2 := hm2.nd
 obtain ⟨v', w', r', L1, Mw, hrun, hMw, hk, hRD, hnd, hL1⟩ := RD.longer (P := P) (T := T) (ty := ty) w hv1 (fun g hg => hm.rep.F_lt hg) a0 n0 c0 us f1 f2 h5 hb
  (by simp only [List.nodup_append, List.mem_append] at hnd2 ⊢; grind) (fun g hg => hm2.bound g (by simp only [List.mem_append] at hg ⊢; grind))
 refine wV_ (u := v') (w' := w') ?_ (hm2.put_root hK hd hX _ _ Mw (fun g hg => by simp [hMw g hg]) hk r' L1 hRD hnd (fun g hg => ⟨(hL1 g hg).1, by have := (hL1 g hg).2; simp only [List.mem_append] at this ⊢; grind⟩))
 simp [execOp, resolve, invoke, builtin, e0, hrun]
end
end Go.Pv
