/- Regions, code, and whole functions. No condition. -/
import Derived.Test.YtmgmpnhlehonmaaGreatKPvA
set_option linter.unusedVariables false
set_option linter.unusedSimpArgs false
namespace Go.Pv
open Go.RowKit
structure RepM (f : Fr) (X : Nat → Prop) (st : Nat → AV) (a : Act) (w : World) (ρ : Nat → Rho) (L : Nat → List Nat) (M : List Nat) : Prop where
 rep : RepO f X st a w ρ L
 nd : M.Nodup
 disj : ∀ t, ∀ g ∈ L t, g ∉ M
 bound : ∀ g ∈ M, g < w.heap.size ∧ ¬ f.F g
 mine : ∀ g ∈ M, g ∈ f.M ∨ f.w0.heap.size ≤ g
section
variable {P : Program} {n : NN} {nid : Nat} {st : Nat → AV} {f : Fr} {X : Nat → Prop} {a : Act} {w : World} {ρ : Nat → Rho} {L : Nat → List Nat} {M : List Nat}
theorem RepO.toM (h : RepO f X st a w ρ L) : RepM f X st a w ρ L [] := ⟨h, List.nodup_nil, by simp, by simp, by simp⟩
theorem RepM.step (h : RepM f X st a w ρ L M) (T : Nat → Prop) (Mw : List Nat) (X' : Nat → Prop) (st' : Nat → AV) (a' : Act) (w' : World) (ρ' : Nat → Rho) (L' : Nat → List Nat)
  (hd : a'.defers = a.defers) (hsize : a'.tmps.size = a.tmps.size) (hH : ∀ t, f.N t = false → tmp a' t = tmp a t) (hk : Keep w Mw w') (hM : ∀ g ∈ Mw, (∃ t, T t ∧ g ∈ L t) ∨ g ∈ M) (hρ : ∀ i, X i → ρ' i = ρ i)
  (hsame : ∀ t, ¬ T t → st' t = st t ∧ tmp a' t = tmp a t ∧ L' t = L t)
  (hnew : ∀ t, T t → SR f.F w' ρ' (st' t) (tmp a' t) (L' t) ∧ (L' t).Nodup ∧ ∀ g ∈ L' t, g < w'.heap.size ∧ ((∃ u, T u ∧ g ∈ L u) ∨ g ∈ M ∨ w.heap.size ≤ g))
  (hdisj : ∀ t u, T t → T u → t ≠ u → ∀ g ∈ L' t, g ∉ L' u)
  (hX : ∀ i, X i → X' i) (hids : ∀ t, T t → ∀ i ∈ (st' t).ids, X' i) : RepO f X' st' a' w' ρ' L' := by
 have h0 := h.rep
 have hF : ∀ g, f.F g → Same w w' g := fun g hg => hk.block g (h0.F_lt hg) (fun hm => by
  rcases hM g hm with ⟨t, _, ht⟩ | ht
  ·exact (h0.bound t g ht).2 hg
  ·exact (h.bound g ht).2 hg)
 have hL : ∀ t, ¬ T t → ∀ g ∈ L t, Same w w' g := fun t ht g hg => hk.block g (h0.bound t g hg).1 (fun hm => by
  rcases hM g hm with ⟨u, hu, hgu⟩ | hgu
  ·exact h0.disj t u (by rintro rfl; exact ht hu) g hg hgu
  ·exact h.disj t g hg hgu)
 refine ⟨hd.trans h0.defers, fun d hd => by rw [hsize]; exact h0.size d hd, fun q hq => ⟨(h0.hold q hq).1, (hH _ (h0.hold q hq).1).trans (h0.hold q hq).2⟩, h0.keep.trans hk (fun g hg hlt => ?_), fun t => ?_, fun t => ?_, fun t u htu g hg hgu => ?_, fun t g hg => ?_, fun t i hi => ?_, fun t g hg => ?_, fun q hq => ⟨hX _ (h0.names q hq).1, (hρ _ (h0.names q hq).1).trans (h0.names q hq).2⟩⟩
 ·have hmine : g ∈ f.M ∨ f.w0.heap.size ≤ g := by
   rcases hM g hg with ⟨t, _, ht⟩ | ht
   ·exact h0.mine t g ht
   ·exact h.mine g ht
  rcases hmine with hm | hm
  ·exact hm
  ·omega
 ·by_cases ht : T t
  ·exact (hnew t ht).1
  ·obtain ⟨e1, e2, e3⟩ := hsame t ht
   rw [e1, e2, e3]
   exact SR.same (fun _ h => h) hF _ _ _ (h0.slots t) (hL t ht) (fun i hi => hρ i (h0.ids t i hi))
 ·by_cases ht : T t
  ·exact (hnew t ht).2.1
  ·rw [(hsame t ht).2.2]; exact h0.nodup t
 ·by_cases ht : T t <;> by_cases hu : T u
  ·exact hdisj t u ht hu htu g hg hgu
  ·rw [(hsame u hu).2.2] at hgu
   rcases ((hnew t ht).2.2 g hg).2 with ⟨v, hv, hgv⟩ | hgm | hge
   ·exact h0.disj v u (by rintro rfl; exact hu hv) g hgv hgu
   ·exact h.disj u g hgu hgm
   ·have := (h0.bound u g hgu).1; omega
  ·rw [(hsame t ht).2.2] at hg
   rcases ((hnew u hu).2.2 g hgu).2 with ⟨v, hv, hgv⟩ | hgm | hge
   ·exact h0.disj v t (by rintro rfl; exact ht hv) g hgv hg
   ·exact h.disj t g hg hgm
   ·have := (h0.bound t g hg).1; omega
  ·rw [(hsame t ht).2.2] at hg
   rw [(hsame u hu).2.2] at hgu
   exact h0.disj t u htu g hg hgu
 ·by_cases ht : T t
  ·refine ⟨((hnew t ht).2.2 g hg).1, fun hf => ?_⟩
   rcases ((hnew t ht).2.2 g hg).2 with ⟨v, hv, hgv⟩ | hgm | hge
   ·exact (h0.bound v g hgv).2 hf
   ·exact (h.bound g hgm).2 hf
   ·have := h0.F_lt hf; omega
  ·rw [(hsame t ht).2.2] at hg
   exact ⟨Nat.lt_of_lt_of_le (h0.bound t g hg).1 hk.size, (h0.bound t g hg).2⟩
 ·by_cases ht : T t
  ·exact hids t ht i hi
  ·rw [(hsame t ht).1] at hi
   exact hX i (h0.ids t i hi)
 ·by_cases ht : T t
  ·rcases ((hnew t ht).2.2 g hg).2 with ⟨v, hv, hgv⟩ | hgm | hge
   ·exact h0.mine v g hgv
   ·exact h.mine g hgm
   ·exact .inr (Nat.le_trans h0.keep.size hge)
  ·rw [(hsame t ht).2.2] at hg
   exact h0.mine t g hg
theorem RepM.put_root {K : Act → World → Prop} (h : RepM f X st a w ρ L M) {d id : Nat} {D1 : D} (hK : ∀ a' w', Rep f (fun i => X i ∨ i = id) (put st d (.own id D1)) a' w' → K a' w') (hd : f.N d = true) (hid : ¬ X id) (v : Value) (w' : World) (Mw : List Nat) (hMw : ∀ g ∈ Mw, g ∈ M) (hk : Keep w Mw w') (r : Rho) (L1 : List Nat)
  (hv : RD f.F w' D1 r v L1) (hn : L1.Nodup) (hL : ∀ g ∈ L1, g < w'.heap.size ∧ (g ∈ M ∨ w.heap.size ≤ g)) : K (a.put (some d) v) w' := by
 refine hK _ _ ⟨fun i => if i = id then r else ρ i, fun t => if t = d then L1 else L t, ?_⟩
 refine h.step (fun t => t = d) Mw _ _ _ w' _ _ (put_defers _ _ _) (put_size _ _ _) (hold_put _ hd) hk (fun g hg => .inr (hMw g hg)) (fun i hi => by rw [if_neg (by rintro rfl; exact hid hi)]) (fun t ht => ⟨put_other _ _ _ _ ht, tmp_put_other _ _ _ _ ht, by simp [ht]⟩) (fun t ht => ?_) (fun t u ht hu hne => absurd (ht.trans hu.symm) hne) (fun _ h => .inl h) (fun t ht i hi => ?_)
 ·subst ht
  rw [put_same, tmp_put_same _ _ _ (h.rep.size _ hd), if_pos rfl]
  refine ⟨?_, hn, fun g hg => ⟨(hL g hg).1, .inr (hL g hg).2⟩⟩
  simp only [SR, if_true]
  exact hv
 ·subst ht; rw [put_same] at hi; simp only [AV.ids, List.mem_singleton] at hi; exact .inr hi
theorem RepM.put_raw {K : Act → World → Prop} (h : RepM f X st a w ρ L M) {d id : Nat} {av : AV} (hK : ∀ a' w', Rep f (fun i => X i ∨ i = id) (put st d av) a' w' → K a' w') (hd : f.N d = true) (v : Value) (w' : World) (Mw : List Nat) (hMw : ∀ g ∈ Mw, g ∈ M) (hk : Keep w Mw w') (L1 : List Nat)
  (hv : SR f.F w' ρ av v L1) (hn : L1.Nodup) (hL : ∀ g ∈ L1, g < w'.heap.size ∧ (g ∈ M ∨ w.heap.size ≤ g)) (hids : ∀ i ∈ av.ids, X i) : K (a.put (some d) v) w' := by
 refine hK _ _ ⟨ρ, fun t => if t = d then L1 else L t, ?_⟩
 refine h.step (fun t => t = d) Mw _ _ _ w' _ _ (put_defers _ _ _) (put_size _ _ _) (hold_put _ hd) hk (fun g hg => .inr (hMw g hg)) (fun i hi => rfl) (fun t ht => ⟨put_other _ _ _ _ ht, tmp_put_other _ _ _ _ ht, by simp [ht]⟩) (fun t ht => ?_) (fun t u ht hu hne => absurd (ht.trans hu.symm) hne) (fun _ h => .inl h) (fun t ht i hi => ?_)
 ·subst ht
  rw [put_same, tmp_put_same _ _ _ (h.rep.size _ hd), if_pos rfl]
  exact ⟨hv, hn, fun g hg => ⟨(hL g hg).1, .inr (hL g hg).2⟩⟩
 ·subst ht; rw [put_same] at hi; exact .inl (hids i hi)
theorem RepM.detach (h : RepM f X st a w ρ L M) (x : Nat) (av : AV) (Lx M1 : List Nat) (hsr : SR f.F w ρ av (tmp a x) Lx) (hids : ∀ i ∈ av.ids, X i)
  (hp : ∀ g, (g ∈ Lx ∨ g ∈ M1) → g ∈ L x) (hn : Lx.Nodup) (hm : M1.Nodup) (hdis : ∀ g ∈ Lx, g ∉ M1) :
  RepM f X (put st x av) a w ρ (fun t => if t = x then Lx else L t) (M ++ M1) := by
 have h0 := h.rep
 refine ⟨?_, ?_, fun t g hg => ?_, fun g hg => ?_, fun g hg => ?_⟩
 ·refine h0.step (fun t => t = x) [] X _ a w ρ _ rfl rfl (fun _ _ => rfl) (Keep.refl w) (by simp) (fun _ _ => rfl) (fun t ht => ⟨put_other _ _ _ _ ht, rfl, by simp [ht]⟩) (fun t ht => ?_) (fun t u ht hu hne => absurd (ht.trans hu.symm) hne) (fun _ h => h) (fun t ht i hi => ?_)
  ·subst ht
   rw [put_same, if_pos rfl]
   exact ⟨hsr, hn, fun g hg => ⟨(h0.bound t g (hp g (.inl hg))).1, .inl ⟨t, rfl, hp g (.inl hg)⟩⟩⟩
  ·subst ht; rw [put_same] at hi; exact hids i hi
 ·rw [List.nodup_append]
  exact ⟨h.nd, hm, fun g hg g' hg' e => h.disj x g' (hp g' (.inr hg')) (e ▸ hg)⟩
 ·rw [List.mem_append, not_or]
  by_cases ht : t = x
  ·subst ht
   rw [if_pos rfl] at hg
   exact ⟨h.disj t g (hp g (.inl hg)), hdis g hg⟩
  ·rw [if_neg ht] at hg
   exact ⟨h.disj t g hg, fun hg' => h0.disj t x ht g hg (hp g (.inr hg'))⟩
 ·rw [List.mem_append] at hg
  rcases hg with hg | hg
  ·exact h.bound g hg
  ·exact h0.bound x g (hp g (.inr hg))
 ·rw [List.mem_append] at hg
  rcases hg with hg | hg
  ·exact h.mine g hg
  ·exact h0.mine x g (hp g (.inr hg))
inductive Give (st : Nat → AV) : Operand → List Nat → D → List (Nat × AV) → Prop
 | lit {v} : v.oneCell' = true → Give st (.const v) [] (.lit v) []
 | nil {sz} : Give st (.const (.slice none 0 0)) [] (.sl true sz []) []
 | c {t d} : st t = .c d → Give st (.tmp t) [t] d []
 | own {t id d} : st t = .own id d → Give st (.tmp t) [t] d [(t, .dead)]
 | als {t x id sz cs} : st t = .als x id [] → st x = .own id (.sl true sz cs) → Give st (.tmp t) [t, x] (.sl true sz cs) [(x, .dead)]
 | ptr {t x id cs} : st t = .ptr x id [] 0 → st x = .own id (.pt true cs) → Give st (.tmp t) [t, x] (.pt true cs) [(x, .dead)]
 | part {t x id k path dd sz cs} : st t = .als x id (k :: path) → st x = .own id dd → dd.nav (k :: path) = some (.sl true sz cs) → Give st (.tmp t) [t, x] (.sl true sz cs) [(x, .own id (dd.put (k :: path) .hole))]
theorem Give.agree {st st' : Nat → AV} {x : Operand} {rd : List Nat} {d : D} {up : List (Nat × AV)} (h : Give st x rd d up) (hs : ∀ s ∈ rd, st' s = st s) : Give st' x rd d up := by
 cases h with
 | lit h => exact .lit h
 | nil => exact .nil
 | c h => exact .c ((hs _ (by simp)).trans h)
 | own h => exact .own ((hs _ (by simp)).trans h)
 | als h1 h2 => exact .als ((hs _ (by simp)).trans h1) ((hs _ (by simp)).trans h2)
 | ptr h1 h2 => exact .ptr ((hs _ (by simp)).trans h1) ((hs _ (by simp)).trans h2)
 | part h1 h2 h3 => exact .part ((hs _ (by simp)).trans h1) ((hs _ (by simp)).trans h2) h3
theorem RepM.give (h : RepM f X st a w ρ L M) {x : Operand} {rd : List Nat} {d : D} {up : List (Nat × AV)} (hg : Give st x rd d up) :
  ∃ r L' M1, RepM f X (puts st up) a w ρ L' (M ++ M1) ∧ RD f.F w d r (a.eval x) M1 := by
 cases hg with
 | @lit v hv => exact ⟨fun _ => undef, L, [], by simpa [puts] using h, by simp only [RD]; exact ⟨rfl, hv, trivial⟩⟩
 | @nil sz => exact ⟨fun _ => .slice none 0 0, L, [], by simpa [puts] using h, by simp only [RD]; exact ⟨rfl, [], [], [], rfl, .inl ⟨rfl, rfl, rfl⟩, by simp [RDs]⟩⟩
 | @c t d ht =>
  have := h.rep.slots t
  rw [ht] at this
  simp only [SR] at this
  obtain ⟨_, r, hr⟩ := this
  exact ⟨r, L, [], by simpa [puts] using h, hr⟩
 | @own t id d ht =>
  have := h.rep.slots t
  rw [ht] at this
  simp only [SR] at this
  exact ⟨_, _, L t, h.detach t .dead [] (L t) (by simp only [SR]) (by simp [AV.ids]) (fun g hg => by simpa using hg) List.nodup_nil (h.rep.nodup t) (by simp), this⟩
 | @als t x id sz cs ht hx =>
  have h1 := h.rep.slots t
  rw [ht] at h1
  simp only [SR] at h1
  have h2 := h.rep.slots x
  rw [hx] at h2
  simp only [SR] at h2
  have e : a.eval (.tmp t) = tmp a x := by
   have e1 : a.eval (.tmp t) = ρ id [] := h1.2
   rw [e1]
   simp only [RD] at h2
   exact h2.1.symm
  rw [e]
  exact ⟨_, _, L x, h.detach x .dead [] (L x) (by simp only [SR]) (by simp [AV.ids]) (fun g hg => by simpa using hg) List.nodup_nil (h.rep.nodup x) (by simp), h2⟩
 | @ptr t x id cs ht hx =>
  have h1 := h.rep.slots t
  rw [ht] at h1
  simp only [SR] at h1
  obtain ⟨_, b, hb, h1⟩ := h1
  have h2 := h.rep.slots x
  rw [hx] at h2
  simp only [SR] at h2
  have e : a.eval (.tmp t) = tmp a x := by
   have e1 : a.eval (.tmp t) = _ := h1
   rw [e1]
   simp only [RD] at h2
   obtain ⟨e2, g, us, L1, ty, e3, _⟩ := h2
   rw [← e2, e3] at hb
   simp only [baseOf, Option.some.injEq] at hb
   rw [e3, ← hb]
   rfl
  rw [e]
  exact ⟨_, _, L x, h.detach x .dead [] (L x) (by simp only [SR]) (by simp [AV.ids]) (fun g hg => by simpa using hg) List.nodup_nil (h.rep.nodup x) (by simp), h2⟩
 | @part t x id k path dd sz cs ht hx hn =>
  have h1 := h.rep.slots t
  have hi := h.rep.ids x
  rw [ht] at h1
  rw [hx] at hi
  simp only [SR] at h1
  obtain ⟨v1, A, L1, B, eL, h3, hset⟩ := h.rep.part hx hn
  have hv1 : v1 = ρ id (k :: path) := by
   have := h3
   simp only [RD] at this
   rw [this.1, Rho.sub_nil]
  have e : a.eval (.tmp t) = v1 := by rw [hv1]; exact h1.2
  have hfin := hset w .hole ((ρ id).sub (k :: path)) [] (fun _ _ => rfl) (fun _ _ => rfl) (by simp only [RD]; exact ⟨by rw [Rho.sub_nil]; exact hv1, h3.one, trivial⟩)
  rw [Rho.set_sub] at hfin
  have hnd := h.rep.nodup x
  rw [eL] at hnd
  simp only [List.nodup_append, List.mem_append] at hnd
  rw [e]
  refine ⟨_, _, L1, h.detach x (.own id (dd.put (k :: path) .hole)) (A ++ ([] ++ B)) L1 (by simp only [SR]; exact hfin) (by simpa [AV.ids] using hi) (fun g hg => ?_) ?_ hnd.2.1.1 (fun g hg hg' => ?_), h3⟩
  ·rw [eL]; simp only [List.nil_append, List.mem_append] at hg ⊢; grind
  ·simp only [List.nil_append, List.nodup_append]; grind
  ·simp only [List.nil_append, List.mem_append] at hg; grind
inductive Gives : (Nat → AV) → List Operand → List Nat → List D → List (Nat × AV) → Prop
 | nil {s0 : Nat → AV} : Gives s0 [] [] [] []
 | cons {s0 : Nat → AV} {x : Operand} {xs : List Operand} {rd rds : List Nat} {d : D} {ds : List D} {up ups : List (Nat × AV)} : Give s0 x rd d up → Gives (puts s0 up) xs rds ds ups → Gives s0 (x :: xs) (rd ++ rds) (d :: ds) (up ++ ups)
theorem puts_append (st : Nat → AV) (u v : List (Nat × AV)) : puts st (u ++ v) = puts (puts st u) v := by
 induction u generalizing st with
 | nil => rfl
 | cons p u ih => obtain ⟨d, x⟩ := p; simp [puts, ih]
theorem puts_agree {st st' : Nat → AV} : ∀ (up : List (Nat × AV)) (s : Nat), st' s = st s → puts st' up s = puts st up s
 | [], s, h => h
 | (d, v) :: up, s, h => by
  simp only [puts]
  refine puts_agree up s ?_
  by_cases e : s = d
  ·subst e; simp [put_same]
  ·simp [put_other _ _ _ _ e, h]
theorem Gives.agree : ∀ {st st' : Nat → AV} {xs : List Operand} {rd : List Nat} {ds : List D} {up : List (Nat × AV)}, Gives st xs rd ds up → (∀ s ∈ rd, st' s = st s) → Gives st' xs rd ds up
 | _, _, _, _, _, _, .nil, _ => .nil
 | _, _, _, _, _, _, .cons h1 h2, hs => .cons (h1.agree fun s hs' => hs s (by simp [hs'])) (Gives.agree h2 fun s hs' => puts_agree _ _ (hs s (by simp [hs'])))
theorem RepM.gives : ∀ {st : Nat → AV} {L : Nat → List Nat} {M : List Nat}, RepM f X st a w ρ L M → ∀ {xs : List Operand} {rd : List Nat} {ds : List D} {up : List (Nat × AV)}, Gives st xs rd ds up → ∀ k : Nat,
  ∃ r L' M1, RepM f X (puts st up) a w ρ L' (M ++ M1) ∧ RDs f.F w ds k r (xs.map a.eval) M1
 | st, L, M, h, _, _, _, _, .nil, k => ⟨fun _ => undef, L, [], by simpa [puts] using h, by simp [RDs]⟩
 | st, L, M, h, _, _, _, _, .cons (x := x) (xs := xs) (d := d) (ds := ds) h1 h2, k => by
  obtain ⟨r1, L1, M1, hm1, hr1⟩ := h.give h1
  obtain ⟨r2, L2, M2, hm2, hr2⟩ := RepM.gives hm1 h2 (k + 1)
  refine ⟨(fun π => match π with | [] => undef | j :: q => if j = k then r1 q else r2 (j :: q)), L2, M1 ++ M2, ?_, ?_⟩
  ·rw [puts_append, ← List.append_assoc]; exact hm2
  ·simp only [List.map_cons, RDs]
   refine ⟨_, _, M1, M2, rfl, rfl, ?_, ?_⟩
   ·refine RD.rho d r1 _ _ M1 hr1 (fun π => by simp [Rho.at])
   ·refine RDs.rho ds (k + 1) r2 _ _ M2 hr2 (fun j hj => ?_)
    funext π
    simp [Rho.at, show j ≠ k from by omega]
end
end Go.Pv
namespace Go.Pv
open Go.RowKit
section
variable {P : Program} {n : NN} {nid : Nat} {st : Nat → AV} {f : Fr} {X : Nat → Prop} {a : Act} {w : World} {ρ : Nat → Rho} {L : Nat → List Nat} {M : List Nat}
theorem alloc_new (w : World) (o : Obj) : (w.alloc o).heap[w.heap.size]? = some o := by
 show (w.heap.push o)[w.heap.size]? = some o
 simp
theorem oneCell_cells {v : Value} (h : v.oneCell' = true) : v.cells = #[v] := by cases v <;> simp [Value.oneCell'] at h <;> rfl
theorem step_box {d : Nat} {x : Operand} {T : TypeId} {dd : D} {rd : List Nat} {up : List (Nat × AV)} {ty pos aft g} (h : Give st x rd dd up) (hd : n d = true) :
  Step P n ⟨some d, .box T x, ty, pos, aft, g⟩ nid st rd (up ++ [(d, .own nid (.pt true [dd]))]) := by
 intro X st' hs hX f a w hn hrep K Q hK
 obtain ⟨ρ, L, hr⟩ := hrep
 subst hn
 obtain ⟨r, L', M1, hm, hv⟩ := hr.toM.give (h.agree hs)
 rw [puts_append] at hK
 rw [List.nil_append] at hm
 have hsame : ∀ g, g < w.heap.size → Same w (w.alloc (.cells #[a.eval x] T)) g := fun g hg => Below.heap_alloc w _ g hg
 refine wV_ (u := .pointer (some ⟨w.heap.size, 0, none⟩)) (w' := w.alloc (.cells #[a.eval x] T)) ?_
  (hm.put_root hK hd hX _ _ [] (by simp) (Keep.alloc w _) (fun π => match π with | [] => .pointer (some ⟨w.heap.size, 0, none⟩) | _ :: q => r q) (w.heap.size :: M1) ?_ ?_ ?_)
 ·simp only [execOp, Instr.box, newVar, newRow, oneCell_cells hv.one, Sem.run_bind, run_newObj, Result.andThen_ok, Sem.run_pure]
  rfl
 ·simp only [RD]
  refine ⟨trivial, w.heap.size, [a.eval x], M1, T, rfl, rfl, alloc_new w _, ?_⟩
  simp only [RDs]
  refine ⟨_, _, M1, [], rfl, by simp, ?_, rfl, rfl⟩
  exact RD.rho dd r _ _ M1 (RD.same (fun _ h => h) (fun g hg => hsame g (hm.rep.F_lt hg)) dd r _ M1 hv (fun g hg => hsame g (hm.bound g hg).1)) (fun π => rfl)
 ·rw [List.nodup_cons]
  exact ⟨fun hg => by have := (hm.bound _ hg).1; omega, hm.nd⟩
 ·intro g hg
  rw [List.mem_cons] at hg
  rcases hg with rfl | hg
  ·exact ⟨by simp, .inr (Nat.le_refl _)⟩
  ·exact ⟨by simp; have := (hm.bound g hg).1; omega, .inl hg⟩
def AV.dat : AV → Option D
 | .c d => some d
 | .raw d => some d
 | _ => none
def AV.dats : List AV → Option (List D)
 | [] => some []
 | x :: l => match x.dat, AV.dats l with
  | some d, some ds => some (d :: ds)
  | _, _ => none
theorem SRs.dats {F : Nat → Prop} {w : World} {ρ : Nat → Rho} : ∀ (l : List AV) (ds : List D) (k : Nat) (vs : List Value) (L : List Nat), SRs F w ρ l vs L → AV.dats l = some ds → ∃ r, RDs F w ds k r vs L
 | [], ds, k, vs, L, h, hd => by
  simp only [AV.dats, Option.some.injEq] at hd
  subst hd
  simp only [SRs] at h
  exact ⟨fun _ => undef, by simpa only [RDs] using h⟩
 | x :: l, ds, k, vs, L, h, hd => by
  simp only [AV.dats] at hd
  cases hx : x.dat with
  | none => simp [hx] at hd
  | some d =>
   cases hl : AV.dats l with
   | none => simp [hx, hl] at hd
   | some ds' =>
    simp only [hx, hl, Option.some.injEq] at hd
    subst hd
    simp only [SRs] at h
    obtain ⟨v, vs', L1, L2, rfl, rfl, h1, h2⟩ := h
    obtain ⟨r2, h3⟩ := SRs.dats l ds' (k + 1) vs' L2 h2 hl
    have h4 : ∃ r1, RD F w d r1 v L1 := by
     cases x <;> simp [AV.dat] at hx
     ·subst hx; simp only [SR] at h1; obtain ⟨rfl, r, h1⟩ := h1; exact ⟨r, h1⟩
     ·subst hx; simp only [SR] at h1; exact h1
    obtain ⟨r1, h4⟩ := h4
    refine ⟨fun π => match π with | [] => undef | j :: q => if j = k then r1 q else r2 (j :: q), ?_⟩
    simp only [RDs]
    refine ⟨v, vs', L1, L2, rfl, rfl, RD.rho d r1 _ v L1 h4 (fun π => by simp [Rho.at]), RDs.rho ds' (k + 1) r2 _ vs' L2 h3 (fun j hj => ?_)⟩
    funext π
    simp [Rho.at, show j ≠ k from by omega]
theorem step_box_agg {d t : Nat} {T : TypeId} {l : List AV} {ds : List D} {ty pos aft g} (h : st t = .agg l) (hl : AV.dats l = some ds) (hd : n d = true) :
  Step P n ⟨some d, .box T (.tmp t), ty, pos, aft, g⟩ nid st [t] [(t, .dead), (d, .own nid (.pt true ds))] := by
 intro X st' hs hX f a w hn hrep K Q hK
 obtain ⟨ρ, L, hr⟩ := hrep
 subst hn
 have ht := hr.slots t
 rw [(hs t (by simp)).trans h] at ht
 simp only [SR] at ht
 obtain ⟨vs, e0, h1⟩ := ht
 obtain ⟨r, h2⟩ := h1.dats l ds 0 vs (L t) hl
 have hm := hr.toM.detach t .dead [] (L t) (by simp only [SR]) (by simp [AV.ids]) (fun g hg => by simpa using hg) List.nodup_nil (hr.nodup t) (by simp)
 rw [List.nil_append] at hm
 have hsame : ∀ g, g < w.heap.size → Same w (w.alloc (.cells vs.toArray T)) g := fun g hg => Below.heap_alloc w _ g hg
 refine wV_ (u := .pointer (some ⟨w.heap.size, 0, none⟩)) (w' := w.alloc (.cells vs.toArray T)) ?_
  (hm.put_root (K := K) (d := d) hK hd hX _ _ [] (by simp) (Keep.alloc w _) (fun π => match π with | [] => .pointer (some ⟨w.heap.size, 0, none⟩) | j :: q => r (j :: q)) (w.heap.size :: L t) ?_ ?_ ?_)
 ·have e1 : a.eval (.tmp t) = _ := e0
  simp only [execOp, Instr.box, newVar, newRow, e1, Value.cells, Sem.run_bind, run_newObj, Result.andThen_ok, Sem.run_pure]
  rfl
 ·simp only [RD]
  refine ⟨trivial, w.heap.size, vs, L t, T, rfl, rfl, alloc_new w _, ?_⟩
  exact RDs.rho ds 0 r _ vs _ (RDs.same (fun _ h => h) (fun g hg => hsame g (hr.F_lt hg)) ds 0 r vs _ h2 (fun g hg => hsame g (hr.bound t g hg).1)) (fun j _ => rfl)
 ·rw [List.nodup_cons]
  exact ⟨fun hg => by have := (hr.bound t _ hg).1; omega, hr.nodup t⟩
 ·intro g hg
  rw [List.mem_cons] at hg
  rcases hg with rfl | hg
  ·exact ⟨by simp, .inr (Nat.le_refl _)⟩
  ·exact ⟨by simp; have := (hr.bound t g hg).1; omega, .inl hg⟩
def ZeroD : Value → D → Prop
 | .slice none 0 0, .sl true _ [] => True
 | u, .lit v => v = u ∧ u.oneCell' = true
 | _, _ => False
inductive ZeroDs : List Value → List D → Prop
 | nil : ZeroDs [] []
 | cons {u d us ds} : ZeroD u d → ZeroDs us ds → ZeroDs (u :: us) (d :: ds)
class ZeroTy (P : Program) (T : TypeId) (ds : outParam (List D)) : Prop where
 out : ∃ i z, P.info? T = some i ∧ i.zero = some z ∧ ZeroDs z.cells.toList ds
theorem ZeroD.rd {F : Nat → Prop} {w : World} {u : Value} {d : D} (h : ZeroD u d) : RD F w d (fun _ => u) u [] := by
 unfold ZeroD at h
 split at h
 ·simp only [RD]; exact ⟨trivial, [], [], [], rfl, .inl ⟨rfl, rfl, rfl⟩, by simp [RDs]⟩
 ·simp only [RD]; exact ⟨h.1.symm, h.1 ▸ h.2, trivial⟩
 ·exact h.elim
theorem ZeroDs.rds {F : Nat → Prop} {w : World} : ∀ {us : List Value} {ds : List D} (k : Nat), ZeroDs us ds → ∃ r, RDs F w ds k r us []
 | _, _, k, .nil => ⟨fun _ => undef, by simp [RDs]⟩
 | _, _, k, .cons (u := u) (d := d) (us := us) (ds := ds) h1 h2 => by
  obtain ⟨r, h3⟩ := ZeroDs.rds (F := F) (w := w) (k + 1) h2
  refine ⟨fun π => match π with | [] => undef | j :: q => if j = k then u else r (j :: q), ?_⟩
  simp only [RDs]
  refine ⟨u, us, [], [], rfl, rfl, RD.rho d _ _ u [] h1.rd (fun π => by simp [Rho.at]), RDs.rho ds (k + 1) r _ us [] h3 (fun j hj => ?_)⟩
  funext π
  simp [Rho.at, show j ≠ k from by omega]
theorem step_alloc {d : Nat} {T : TypeId} {ds : List D} {ty pos aft g} [hz : ZeroTy P T ds] (hd : n d = true) :
  Step P n ⟨some d, .alloc T, ty, pos, aft, g⟩ nid st [] [(d, .own nid (.pt true ds))] := by
 intro X st' hs hX f a w hn hrep K Q hK
 obtain ⟨ρ, L, hr⟩ := hrep
 subst hn
 obtain ⟨i, z, t1, t2, t3⟩ := hz.out
 obtain ⟨r, h2⟩ := t3.rds (F := f.F) (w := w.alloc (.cells z.cells T)) 0
 refine wV_ (u := .pointer (some ⟨w.heap.size, 0, none⟩)) (w' := w.alloc (.cells z.cells T)) ?_
  (hr.done_new hK hd hX _ _ (Keep.alloc w _) (fun π => match π with | [] => .pointer (some ⟨w.heap.size, 0, none⟩) | j :: q => r (j :: q)) [w.heap.size] ?_ (by simp) (by simp))
 ·simp [execOp, Instr.alloc, zeroValue, typeInfo, t1, t2, newVar, newRow]
 ·simp only [RD]
  refine ⟨trivial, w.heap.size, z.cells.toList, [], T, rfl, rfl, by simpa using alloc_new w (.cells z.cells T), ?_⟩
  exact RDs.rho ds 0 r _ _ _ h2 (fun j _ => rfl)
theorem fill_ones : ∀ (vs : List Value) (k : Nat) (init : Array Value), (∀ v ∈ vs, v.oneCell' = true) → k + vs.length ≤ init.size →
  Instr.fill (fun i => some (i * 1, 1)) init (vs.zipIdx k |>.map fun p => (p.2, p.1)) = some (init.toList.take k ++ (vs ++ init.toList.drop (k + vs.length))).toArray
 | [], k, init, _, _ => by simp [Instr.fill]
 | v :: vs, k, init, h, hk => by
  simp only [List.length_cons] at hk
  simp only [List.zipIdx_cons, List.map_cons, Instr.fill, Nat.mul_one]
  have hc := oneCell_cells (h v (by simp))
  have h1 : ¬ (v.cells.size ≠ 1 ∨ k + v.cells.size > init.size) := by rw [hc]; simp; omega
  rw [if_neg (by simpa using h1)]
  have h2 : (v.cells.zipIdx.foldl (fun cs (x : Value × Nat) => cs.setIfInBounds (k + x.2) x.1) init) = init.setIfInBounds k v := by rw [hc]; simp
  have ih := fill_ones vs (k + 1) (init.setIfInBounds k v) (fun v hv => h v (by simp [hv])) (by simp; omega)
  simp only [Nat.mul_one] at ih
  rw [h2, ih]
  congr 2
  rw [Array.toList_setIfInBounds]
  apply List.ext_getElem?
  intro j
  simp only [List.getElem?_append, List.length_take, List.length_set, Array.length_toList, List.getElem?_take, List.getElem?_set, List.getElem?_drop, List.length_cons, List.getElem?_cons]
  grind
theorem ones_of {F : Nat → Prop} {w : World} : ∀ {ds : List D} {k : Nat} {r : Rho} {vs : List Value} {L : List Nat}, RDs F w ds k r vs L → ∀ v ∈ vs, v.oneCell' = true
 | [], _, _, _, _, h, v, hv => by simp only [RDs] at h; simp [h.1] at hv
 | d :: ds, k, r, vs, L, h, v, hv => by
  simp only [RDs] at h
  obtain ⟨u, us', L1, L2, rfl, rfl, h1, h2⟩ := h
  rw [List.mem_cons] at hv
  rcases hv with rfl | hv
  ·exact h1.one
  ·exact ones_of h2 v hv
theorem step_slice_lit {d len : Nat} {T : TypeId} {ps : Array (Nat × Operand)} {rd : List Nat} {ds : List D} {up : List (Nat × AV)} {ty pos aft g} [hT : SliceTy P T 1] (h : Gives st (ps.toList.map (·.2)) rd ds up) (hi : ps.toList.map (·.1) = List.range len) (hlen : len ≤ 1000) (hd : n d = true) :
  Step P n ⟨some d, .buildSlice T len ps, ty, pos, aft, g⟩ nid st rd (up ++ [(d, .own nid (.sl true 1 ds))]) := by
 intro X st' hs hX f a w hn hrep K Q hK
 obtain ⟨ρ, L, hr⟩ := hrep
 subst hn
 obtain ⟨r, L', M1, hm, hv⟩ := hr.toM.gives (h.agree hs) 0
 rw [puts_append] at hK
 rw [List.nil_append] at hm
 obtain ⟨e, i, z, t1, t2, t3, _, _, _, t4, t5⟩ := hT.out
 have hvl := hv.length
 have hvs := ones_of hv
 have hpl : ps.toList.length = len := by have := congrArg List.length hi; simpa using this
 generalize hus : (ps.toList.map (·.2)).map a.eval = us at *
 have hul : us.length = len := by rw [← hus]; simpa using hpl
 have hsame : ∀ g, g < w.heap.size → Same w (w.alloc (.cells us.toArray e)) g := fun g hg => Below.heap_alloc w _ g hg
 have hparts : ps.toList.map (fun x => (x.fst, a.eval x.snd)) = us.zipIdx.map fun p => (p.2, p.1) := by
  rw [← hus]
  apply List.ext_getElem?
  intro j
  have hj : (ps.toList.map (·.1))[j]? = (List.range len)[j]? := by rw [hi]
  simp only [List.getElem?_map, List.getElem?_zipIdx, Nat.zero_add] at hj ⊢
  cases hp : ps.toList[j]? with
  | none => simp
  | some p =>
   simp only [hp, Option.map_some] at hj ⊢
   have hlt : j < len := by rw [← hpl]; exact (List.getElem?_eq_some_iff.1 hp).1
   simp only [List.getElem?_range hlt, Option.some.injEq] at hj
   obtain ⟨p1, p2⟩ := p
   simp only at hj
   subst hj
   rfl
 have hrun : (Instr.buildSlice T len (ps.map fun (i, x) => (i, a.eval x))).run P w = .ok (.slice (some ⟨w.heap.size, 0, none⟩) len len) (w.alloc (.cells us.toArray e)) := by
  have hsz : ((Array.range (len * 1)).map (fun x => z.cells[x % z.cells.size]!)).size = len := by simp
  have hf := fill_ones us 0 ((Array.range (len * 1)).map (fun x => z.cells[x % z.cells.size]!)) hvs (by rw [hsz]; omega)
  have hz : List.drop (0 + us.length) ((Array.range (len * 1)).map (fun x => z.cells[x % z.cells.size]!)).toList = [] := by
   apply List.drop_eq_nil_of_le
   rw [Array.length_toList, hsz]; omega
  rw [hz] at hf
  simp only [List.take_zero, List.nil_append, List.append_nil] at hf
  have hle : ¬ (16777216 < len * 1) := by omega
  by_cases hz0 : len = 0
  ·subst hz0
   have : us = [] := List.eq_nil_of_length_eq_zero hul
   subst this
   simp [Instr.buildSlice, run_underlying t1, sizeOf, typeInfo, t2, hparts, Instr.fill, newRow, Array.range_zero']
  ·simp only [Nat.mul_one] at hf
   simp [Instr.buildSlice, run_underlying t1, sizeOf, typeInfo, zeroValue, t2, t3, t4, hparts, newRow, hz0, show ¬ (16777216 < len) from by omega, hf]
 refine wV_ (u := .slice (some ⟨w.heap.size, 0, none⟩) len len) (w' := w.alloc (.cells us.toArray e)) ?_
  (hm.put_root hK hd hX _ _ [] (by simp) (Keep.alloc w _) (fun π => match π with | [] => .slice (some ⟨w.heap.size, 0, none⟩) len len | j :: q => r (j :: q)) (w.heap.size :: M1) ?_ ?_ ?_)
 ·simp only [execOp, Sem.run_bind, hrun, Result.andThen_ok, Sem.run_pure]
 ·simp only [RD]
  refine ⟨trivial, us, [w.heap.size], M1, rfl, .mk0 ⟨w.heap.size, len, len, us.toArray, e, rfl, alloc_new w _, by omega, Nat.le_refl _, by unfold maxLen; omega, by simpa using hul, ?_, rfl⟩, ?_⟩
  ·exact List.take_of_length_le (by simp; omega)
  ·exact RDs.rho ds 0 r _ us M1 (RDs.same (fun _ h => h) (fun g hg => hsame g (hm.rep.F_lt hg)) ds 0 r us M1 hv (fun g hg => hsame g (hm.bound g hg).1)) (fun j _ => rfl)
 ·rw [List.nodup_cons]
  exact ⟨fun hg => by have := (hm.bound _ hg).1; omega, hm.nd⟩
 ·intro g hg
  rw [List.mem_cons] at hg
  rcases hg with rfl | hg
  ·exact ⟨by simp, .inr (Nat.le_refl _)⟩
  ·exact ⟨by simp; have := (hm.bound g hg).1; omega, .inl hg⟩
theorem step_assign_give {o : Oper} {d : Nat} {x : Operand} {dd : D} {rd : List Nat} {up : List (Nat × AV)} (hop : o.op = .assign x ∨ o.op = .move x) (hdst : o.dst = some d) (h : Give st x rd dd up) (hd : n d = true) :
  Step P n o nid st rd (up ++ [(d, .own nid dd)]) := by
 intro X st' hs hX f a w hn hrep K Q hK
 obtain ⟨ρ, L, hr⟩ := hrep
 subst hn
 obtain ⟨r, L', M1, hm, hv⟩ := hr.toM.give (h.agree hs)
 rw [puts_append] at hK
 rw [List.nil_append] at hm
 refine wV_ (u := a.eval x) (w' := w) ?_ ?_
 ·rcases hop with e | e <;> simp only [execOp, e] <;> rfl
 ·rw [hdst]
  exact hm.put_root hK hd hX _ _ [] (by simp) (Keep.refl w) r M1 hv hm.nd (fun g hg => ⟨(hm.bound g hg).1, .inl hg⟩)
theorem step_assign_take {d : Nat} {x : Operand} {dd : D} {rd : List Nat} {up : List (Nat × AV)} {ty pos aft g} (h : Give st x rd dd up) (hd : n d = true) :
  Step P n ⟨some d, .assign x, ty, pos, aft, g⟩ nid st rd (up ++ [(d, .own nid dd)]) := step_assign_give (.inl rfl) rfl h hd
end
end Go.Pv
namespace Go.Pv
open Go.RowKit
section
variable {P : Program} {n : NN} {nid : Nat} {st : Nat → AV} {f : Fr} {X : Nat → Prop} {a : Act} {w : World} {ρ : Nat → Rho} {L : Nat → List Nat} {M : List Nat}
theorem run_append_room' (w : World) (t ty e e' : TypeId) (i : TypeInfo) (ht : P.underlying t = some (.slice e)) (hi : P.info? e = some i)
  (g o sLen sCap : Nat) (cur : Array Value) (hg : w.heap[g]? = some (.cells cur e' (0, 0)))
  (b : Addr) (m c : Nat) (news : List Value) (hl : news.length = m * i.size) (hnews : ∀ j u, news[j]? = some u → w.cell? (b.add j) = some u) (h1 : ∀ u ∈ news, u.oneCell' = true)
  (hroom : sLen + m ≤ sCap) (hfit : o + sLen * i.size + news.length ≤ cur.size) :
  (Builtin.append_ #[t, t] ty #[.slice (some ⟨g, o, none⟩) sLen sCap, .slice (some b) m c]).run P w =
   .ok (.slice (some ⟨g, o, none⟩) (sLen + m) sCap) (w.setRow g (cur.toList.take (o + sLen * i.size) ++ news ++ cur.toList.drop (o + sLen * i.size + news.length)).toArray) := by
 have hf := run_firstCells_some (P := P) w i.size m b m c news hl hnews
 have hst := run_storeCells_at P g (o + sLen * i.size) e' news 0 cur w hg (by simpa using hfit) h1
 simp only [Nat.add_zero] at hst
 simp [Builtin.append_, run_underlying ht, sizeOf, typeInfo, hi, Builtin.lenOf, hroom, hf, addr_off, hst]
theorem run_append_zero {T ty : TypeId} {sz : Nat} [hT : SliceTy P T sz] (w : World) (v : Value) (us : List Value) (L0 : List Nat) (h : Row w v sz us L0) (a0 : Option Addr) (c : Nat) :
  (Builtin.append_ #[T, T] ty #[v, .slice a0 0 c]).run P w = .ok v w := by
 obtain ⟨e, i, z, t1, t2, t3, _⟩ := hT.out
 rcases h with ⟨rfl, _, _⟩ | ⟨g, o, n, cap, cur, e', rfl, h2, h3, h4, _⟩
 ·cases a0 <;> simp [Builtin.append_, run_underlying t1, sizeOf, typeInfo, t2, Builtin.lenOf, Builtin.firstCells, loadCells, loadCellsFrom]
 ·cases a0 <;> simp [Builtin.append_, run_underlying t1, sizeOf, typeInfo, t2, Builtin.lenOf, Builtin.firstCells, loadCells, loadCellsFrom, h4, storeCells]
theorem Keep.grow (w : World) (o : Obj) (M : List Nat) : Keep w M (w.drew.alloc o) :=
 ⟨rfl, rfl, rfl, by simp, fun g hg _ => Below.heap_alloc w.drew o g (by simpa using hg), Nat.le_succ _⟩
theorem run_append_row {T ty : TypeId} {sz : Nat} [hT : SliceTy P T sz] (w : World) (v : Value) (us : List Value) (L0 : List Nat) (h : Row w v sz us L0) (a0 : Option Addr) (m c : Nat) (us2 : List Value) (hl : us2.length = m * sz)
  (hcells : us2 ≠ [] → ∃ b, a0 = some b ∧ ∀ (j : Nat) (u : Value), us2[j]? = some u → w.cell? (b.add j) = some u) (h1 : ∀ u ∈ us2, u.oneCell' = true) (hb : us.length + us2.length ≤ 1099511627776) :
  ∃ v' w' L0', (Builtin.append_ #[T, T] ty #[v, .slice a0 m c]).run P w = .ok v' w' ∧ Row w' v' sz (us ++ us2) L0' ∧ Keep w L0 w' ∧ (L0' = L0 ∨ (L0' = [w.heap.size] ∧ w.heap.size < w'.heap.size ∧ Keep w [] w')) := by
 obtain ⟨e, i, z, t1, t2, t3, t4, t5, t6, t7, t8⟩ := hT.out
 by_cases hne : us2 = []
 ·subst hne
  have hm : m = 0 := by
   simp only [List.length_nil] at hl
   rcases Nat.mul_eq_zero.1 hl.symm with h | h <;> omega
  subst hm
  exact ⟨v, w, L0, run_append_zero w v us L0 h a0 c, by simpa using h, ⟨rfl, rfl, rfl, Nat.le_refl _, fun _ _ _ => rfl, Nat.le_refl _⟩, .inl rfl⟩
 ·obtain ⟨b, rfl, hc⟩ := hcells hne
  have hm0 : 0 < m := by
   rcases Nat.eq_zero_or_pos m with rfl | h
   ·simp at hl; exact absurd hl hne
   ·exact h
  have hml : m ≤ us2.length := by rw [hl]; exact Nat.le_mul_of_pos_right m t4
  subst t3
  have hgrown : ∀ (old : Nat) (nn : Nat), nn * i.size = us.length →
    Row (w.drew.alloc (.cells (us.toArray ++ us2.toArray ++ Builtin.zeroCells z.cells (grownCap w (nn + m) old e - (nn + m))) e)) (.slice (some ⟨w.heap.size, 0, none⟩) (nn + m) (grownCap w (nn + m) old e)) i.size (us ++ us2) [w.heap.size] := by
   intro old nn hnn
   have hge := grownCap_ge w (nn + m) old e
   have hnl : nn ≤ us.length := by rw [← hnn]; exact Nat.le_mul_of_pos_right nn t4
   have hcm : grownCap w (nn + m) old e ≤ maxLen := grownCap_le_maxLen w (nn + m) old e (by unfold maxLen; omega)
   refine .mk0 ⟨w.heap.size, _, _, _, e, rfl, alloc_new w.drew _, ?_, hge, hcm, ?_, ?_, rfl⟩
   ·rw [List.length_append, hl, Nat.add_mul, hnn]
   ·simp only [Array.size_append, List.size_toArray, size_zeroCells, t8, hl, ← hnn, ← Nat.add_mul]
    congr 1
    omega
   ·simp only [Array.toList_append, List.append_assoc]
    have : (nn + m) * i.size = (us ++ us2).length := by rw [List.length_append, hl, Nat.add_mul, hnn]
    rw [this, ← List.append_assoc]
    exact List.take_left
  rcases h with ⟨rfl, rfl, rfl⟩ | ⟨g, o, nn, cap, cur, e', rfl, h2, h3, h4, h5, h6, h7, rfl⟩
  ·have hbm : m * i.bytes ≤ 281474976710656 := Nat.le_trans (Nat.mul_le_mul_left m t6) (by omega)
   have hr := run_append_nil (P := P) w T ty e i z t1 t2 t7 b m c us2 hl hc hm0 (by omega) hbm
   have hg := hgrown 0 0 (by simp)
   simp only [Nat.zero_add, List.nil_append, Array.empty_append] at hg
   refine ⟨_, _, _, hr, hg, Keep.grow w _ _, .inr ⟨rfl, by simp, Keep.grow w _ _⟩⟩
  ·have hnl : nn ≤ us.length := by rw [← h3]; exact Nat.le_mul_of_pos_right nn t4
   by_cases hroom : nn + m ≤ cap
   ·have hfit : o + nn * i.size + us2.length ≤ cur.size := by rw [hl, Nat.add_assoc, ← Nat.add_mul]; exact Nat.le_trans (Nat.add_le_add_left (Nat.mul_le_mul_right _ hroom) _) h6
    have hr := run_append_room' (P := P) w T ty e e' i t1 t2 g o nn cap cur h2 b m c us2 hl hc h1 hroom hfit
    refine ⟨_, _, [g], hr, .inr ⟨g, o, nn + m, cap, _, e', rfl, setRow_heap w g cur _ e' _ h2, ?_, hroom, h5, ?_, ?_, rfl⟩, ⟨rfl, rfl, rfl, by simp, fun k _ hk => setRow_other w g k _ (by simpa using hk), Nat.le_refl _⟩, .inl rfl⟩
    ·rw [List.length_append, hl, Nat.add_mul, h3]
    ·simp only [List.size_toArray, List.length_append, List.length_take, List.length_drop, Array.length_toList]
     omega
    ·have hle : o ≤ (cur.toList.take (o + nn * i.size)).length := by rw [List.length_take, Array.length_toList]; omega
     have e1 : (cur.toList.take (o + nn * i.size)).drop o = us := by rw [List.drop_take, Nat.add_sub_cancel_left]; exact h7
     rw [List.append_assoc, List.drop_append_of_le_length hle, e1, ← List.append_assoc]
     have : (nn + m) * i.size = (us ++ us2).length := by rw [List.length_append, hl, Nat.add_mul, h3]
     rw [this]
     exact List.take_left
   ·have holds : ∀ (j : Nat) (u : Value), us[j]? = some u → w.cell? ((⟨g, o, none⟩ : Addr).add j) = some u := by
     intro j u hu
     rw [addr_off]
     exact cell_off h2 h7 hu
    have hbm : (nn + m) * i.bytes ≤ 140737488355328 := Nat.le_trans (Nat.mul_le_mul_left (nn + m) t6) (by omega)
    have hr := run_append_grow (P := P) w T ty e i z t1 t2 t7 ⟨g, o, none⟩ nn cap us h3.symm holds b m c us2 hl hc (by omega) (by omega) (growslice_fits (by omega) hbm)
    exact ⟨_, _, _, hr, hgrown cap nn h3, Keep.grow w _ _, .inr ⟨rfl, by simp, Keep.grow w _ _⟩⟩
theorem RD.longer {F : Nat → Prop} {T ty : TypeId} {sz : Nat} [hT : SliceTy P T sz] (w : World) {cs ds : List D} {r1 : Rho} {v : Value} {M1 : List Nat} (h : RD F w (.sl true sz cs) r1 v M1) (hF : ∀ g, F g → g < w.heap.size)
  (a0 : Option Addr) (m c : Nat) (us2 : List Value) (hl : us2.length = m * sz) (hcells : us2 ≠ [] → ∃ b, a0 = some b ∧ ∀ (j : Nat) (u : Value), us2[j]? = some u → w.cell? (b.add j) = some u)
  {k : Nat} {r2 : Rho} {M2 : List Nat} (h2 : RDs F w ds k r2 us2 M2) (hb : cs.length + ds.length ≤ 1099511627776)
  (hnd : (M1 ++ M2).Nodup) (hlt : ∀ g ∈ M1 ++ M2, g < w.heap.size ∧ ¬ F g) :
  ∃ v' w' r' L1 Mw, (Builtin.append_ #[T, T] ty #[v, .slice a0 m c]).run P w = .ok v' w' ∧ (∀ g ∈ Mw, g ∈ M1) ∧ Keep w Mw w' ∧ RD F w' (.sl true sz (cs ++ ds)) r' v' L1 ∧ L1.Nodup ∧ ∀ g ∈ L1, g < w'.heap.size ∧ (g ∈ M1 ++ M2 ∨ w.heap.size ≤ g) := by
 simp only [RD] at h
 obtain ⟨rfl, us, L0, L2, rfl, h3, h4⟩ := h
 have hu1 := h4.length
 have hu2 := h2.length
 obtain ⟨v', w', L0', hr, hrow, hk, hL0⟩ := run_append_row (P := P) (T := T) (ty := ty) w _ us L0 h3 a0 m c us2 hl hcells (ones_of h2) (by rw [hu1, hu2]; exact hb)
 have hsame : ∀ g, g < w.heap.size → g ∉ L0 → Same w w' g := fun g hg hn => hk.block g hg hn
 have hnd' := hnd
 simp only [List.nodup_append, List.mem_append] at hnd
 have hsF : ∀ g, F g → Same w w' g := fun g hg => hsame g (hF g hg) (fun hm => (hlt g (by simp [hm])).2 hg)
 have hs2 : ∀ g, g ∈ L2 → Same w w' g := fun g hg => hsame g (hlt g (by simp [hg])).1 (fun hm => hnd.1.2.2 g hm g hg rfl)
 have hsM : ∀ g, g ∈ M2 → Same w w' g := fun g hg => hsame g (hlt g (by simp [hg])).1 (fun hm => hnd.2.2 g (.inl hm) g hg rfl)
 have e1 := RDs.same (F' := F) (fun _ h => h) hsF cs 0 r1 us L2 h4 hs2
 have e2 := RDs.same (F' := F) (fun _ h => h) hsF ds k r2 us2 M2 h2 hsM
 -- places of the new part
 have e2' : ∃ r3, RDs F w' ds (0 + cs.length) r3 us2 M2 := by
  have h5 := RDs.shift ds 0 k r2 us2 M2 (by rw [Nat.zero_add]; exact e2)
  exact ⟨_, RDs.unshift ds 0 cs.length _ us2 M2 h5⟩
 obtain ⟨r3, e3⟩ := e2'
 refine ⟨v', w', fun π => match π with | [] => v' | j :: q => if j < cs.length then r1 (j :: q) else r3 (j :: q), L0' ++ (L2 ++ M2), L0, hr, fun g hg => by simp [hg], hk, ?_, ?_, ?_⟩
 ·simp only [RD]
  refine ⟨trivial, us ++ us2, L0', L2 ++ M2, rfl, hrow, RDs.append cs ds 0 _ us us2 L2 M2 ?_ ?_⟩
  ·have : ∀ (cs' : List D) (k' : Nat) (us' : List Value) (L' : List Nat), k' + cs'.length ≤ cs.length → RDs F w' cs' k' r1 us' L' → RDs F w' cs' k' (fun π => match π with | [] => v' | j :: q => if j < cs.length then r1 (j :: q) else r3 (j :: q)) us' L' := by
    intro cs'
    induction cs' with
    | nil => intro k' us' L' _ h; simpa only [RDs] using h
    | cons d cs' ih =>
     intro k' us' L' hk' h
     simp only [RDs, List.length_cons] at h hk' ⊢
     obtain ⟨u, us'', A, B, rfl, rfl, f1, f2⟩ := h
     exact ⟨u, us'', A, B, rfl, rfl, RD.rho d _ _ u A f1 (fun π => by simp [Rho.at, show k' < cs.length from by omega]), ih (k' + 1) us'' B (by omega) f2⟩
   exact this cs 0 us L2 (by omega) e1
  ·refine RDs.rho ds _ r3 _ us2 M2 e3 (fun j hj => ?_)
   funext π
   simp [Rho.at, show ¬ j < cs.length from by omega]
 ·rcases hL0 with rfl | ⟨rfl, _⟩
  ·rw [← List.append_assoc]; exact hnd'
  ·simp only [List.cons_append, List.nil_append, List.nodup_cons, List.mem_append]
   refine ⟨fun h => ?_, ?_⟩
   ·rcases h with h | h
    ·have := (hlt _ (show w.heap.size ∈ (L0 ++ L2) ++ M2 by simp [h])).1; omega
    ·have := (hlt _ (show w.heap.size ∈ (L0 ++ L2) ++ M2 by simp [h])).1; omega
   ·rw [List.nodup_append]
    exact ⟨hnd.1.2.1, hnd.2.1, fun g hg g' hg' e => hnd.2.2 g (.inr hg) g' hg' e⟩
 ·intro g hg
  rcases hL0 with rfl | ⟨rfl, hlt', _⟩
  ·have hg' : g ∈ (L0' ++ L2) ++ M2 := by simpa using hg
   exact ⟨Nat.lt_of_lt_of_le (hlt g hg').1 hk.size, .inl hg'⟩
  ·simp only [List.cons_append, List.nil_append, List.mem_cons] at hg
   rcases hg with rfl | hg
   ·exact ⟨hlt', .inr (Nat.le_refl _)⟩
   ·have hg' : g ∈ (L0 ++ L2) ++ M2 := by simp only [List.mem_append] at hg ⊢; rcases hg with h | h <;> simp [h]
    exact ⟨Nat.lt_of_lt_of_le (hlt g hg').1 hk.size, .inl hg'⟩
def D.plain : D → Bool
 | .lit _ => true
 | _ => false
theorem RDs.plain {F F' : Nat → Prop} {w : World} : ∀ {ds : List D} {k : Nat} {r : Rho} {us : List Value}, RDs F w (D.erases ds) k r us [] → (∀ d ∈ ds, d.plain = true) → RDs F' w ds k r us []
 | [], _, _, _, h, _ => by simpa only [RDs, D.erases] using h
 | d :: ds, k, r, us, h, hp => by
  simp only [RDs, D.erases] at h ⊢
  obtain ⟨u, us', L1, L2, rfl, e, h1, h2⟩ := h
  simp only [List.nil_eq, List.append_eq_nil_iff] at e
  obtain ⟨rfl, rfl⟩ := e
  refine ⟨u, us', [], [], rfl, rfl, ?_, RDs.plain h2 (fun d hd => hp d (by simp [hd]))⟩
  have := hp d (by simp)
  cases d <;> simp [D.plain] at this
  simpa only [RD, D.erase] using h1
theorem step_append_view {d : Nat} {s x : Operand} {T : TypeId} {sz : Nat} {cs ds : List D} {rd rd2 : List Nat} {up : List (Nat × AV)} {ty pos aft g} [hT : SliceTy P T sz] (h : Give st s rd (.sl true sz cs) up) (hv : View (puts st up) x rd2 sz ds) (hp : ∀ c ∈ ds, c.plain = true) (hb : cs.length + ds.length ≤ 1099511627776) (hd : n d = true) :
  Step P n ⟨some d, .call ⟨.builtin .append, #[s, x], #[T, T]⟩, ty, pos, aft, g⟩ nid st (rd ++ rd2) (up ++ [(d, .own nid (.sl true sz (cs ++ ds)))]) := by
 intro X st' hs hX f a w hn hrep K Q hK
 obtain ⟨ρ, L, hr⟩ := hrep
 subst hn
 obtain ⟨r, L', M1, hm, hv1⟩ := hr.toM.give (h.agree fun s hs' => hs s (by simp [hs']))
 rw [puts_append] at hK
 rw [List.nil_append] at hm
 have hv' : View (puts st' up) x rd2 sz ds := hv.agree fun s hs' => puts_agree _ _ (hs s (by simp [hs']))
 obtain ⟨us, r2, ⟨a0, n0, c0, e0, h1, h2, h3, h4⟩, h5⟩ := hv'.read hm.rep
 obtain ⟨v', w', r', L1, Mw, hrun, hMw, hk, hRD, hnd, hL1⟩ := RD.longer (P := P) (T := T) (ty := ty) w hv1 (fun g hg => hm.rep.F_lt hg) a0 n0 c0 us h1.symm (fun hne => let ⟨b, e, _, hc⟩ := h4 hne; ⟨b, e, hc⟩) (RDs.plain (F' := f.F) h5 hp) hb (by simpa using hm.nd) (fun g hg => hm.bound g (by simpa using hg))
 refine wV_ (u := v') (w' := w') ?_ (hm.put_root hK hd hX _ _ Mw hMw hk r' L1 hRD hnd (fun g hg => by simpa using hL1 g hg))
 simp [execOp, resolve, invoke, builtin, e0, hrun]
theorem step_append_sh {d t : Nat} {s : Operand} {T : TypeId} {sz : Nat} {cs ds : List D} {rd : List Nat} {up : List (Nat × AV)} {ty pos aft g} [hT : SliceTy P T sz] (h : Give st s rd (.sl true sz cs) up) (hv : puts st up t = .c (.sl false sz ds)) (hb : cs.length + ds.length ≤ 1099511627776) (hd : n d = true) :
  Step P n ⟨some d, .call ⟨.builtin .append, #[s, .tmp t], #[T, T]⟩, ty, pos, aft, g⟩ nid st (rd ++ [t]) (up ++ [(d, .own nid (.sl true sz (cs ++ ds)))]) := by
 intro X st' hs hX f a w hn hrep K Q hK
 obtain ⟨ρ, L, hr⟩ := hrep
 subst hn
 obtain ⟨r, L', M1, hm, hv1⟩ := hr.toM.give (h.agree fun s hs' => hs s (by simp [hs']))
 rw [puts_append] at hK
 rw [List.nil_append] at hm
 have ht := hm.rep.slots t
 rw [(puts_agree _ _ (hs t (by simp))).trans hv] at ht
 simp only [SR, RD] at ht
 obtain ⟨_, r2, _, us, ⟨a0, n0, c0, e0, h1, h2, h3, h4⟩, h5⟩ := ht
 obtain ⟨v', w', r', L1, Mw, hrun, hMw, hk, hRD, hnd, hL1⟩ := RD.longer (P := P) (T := T) (ty := ty) w hv1 (fun g hg => hm.rep.F_lt hg) a0 n0 c0 us h1.symm (fun hne => let ⟨b, e, _, hc⟩ := h4 hne; ⟨b, e, hc⟩) h5 hb (by simpa using hm.nd) (fun g hg => hm.bound g (by simpa using hg))
 have e1 : a.eval (.tmp t) = _ := e0
 refine wV_ (u := v') (w' := w') ?_ (hm.put_root hK hd hX _ _ Mw hMw hk r' L1 hRD hnd (fun g hg => by simpa using hL1 g hg))
 simp [execOp, resolve, invoke, builtin, e1, hrun]
theorem step_append_give {d : Nat} {s x : Operand} {T : TypeId} {sz : Nat} {cs ds : List D} {rd rd2 : List Nat} {up up2 : List (Nat × AV)} {ty pos aft g} [hT : SliceTy P T sz] (h : Give st s rd (.sl true sz cs) up) (hv : Give (puts st up) x rd2 (.sl true sz ds) up2) (hb : cs.length + ds.length ≤ 1099511627776) (hd : n d = true) :
  Step P n ⟨some d, .call ⟨.builtin .append, #[s, x], #[T, T]⟩, ty, pos, aft, g⟩ nid st (rd ++ rd2) ((up ++ up2) ++ [(d, .own nid (.sl true sz (cs ++ ds)))]) := by
 intro X st' hs hX f a w hn hrep K Q hK
 obtain ⟨ρ, L, hr⟩ := hrep
 subst hn
 obtain ⟨r, L', M1, hm, hv1⟩ := hr.toM.give (h.agree fun s hs' => hs s (by simp [hs']))
 rw [puts_append, puts_append] at hK
 rw [List.nil_append] at hm
 have hv' := hv.agree (st' := puts st' up) fun s hs' => puts_agree _ _ (hs s (by simp [hs']))
 obtain ⟨r2, L2, M2, hm2, hv2⟩ := hm.give hv'
 simp only [RD] at hv2
 obtain ⟨_, us, L0, L3, rfl, h1, h5⟩ := hv2
 have hsh : ∃ a0 n0 c0, a.eval x = .slice a0 n0 c0 ∧ us.length = n0 * sz ∧ (us ≠ [] → ∃ b, a0 = some b ∧ ∀ (j : Nat) (u : Value), us[j]? = some u → w.cell? (b.add j) = some u) := by
  obtain ⟨a0, n0, c0, e0, f1, f2, f3, f4⟩ := h1.shRow (fun g hg => (hm2.bound g (by simp [hg])).1)
  exact ⟨a0, n0, c0, e0, f1.symm, fun hne => let ⟨b, e, _, hc⟩ := f4 hne; ⟨b, e, hc⟩⟩
 obtain ⟨a0, n0, c0, e0, f1, f2⟩ := hsh
 have hnd2 := hm2.nd
 obtain ⟨v', w', r', L1, Mw, hrun, hMw, hk, hRD, hnd, hL1⟩ := RD.longer (P := P) (T := T) (ty := ty) w hv1 (fun g hg => hm.rep.F_lt hg) a0 n0 c0 us f1 f2 h5 hb
  (by simp only [List.nodup_append, List.mem_append] at hnd2 ⊢; grind) (fun g hg => hm2.bound g (by simp only [List.mem_append] at hg ⊢; grind))
 refine wV_ (u := v') (w' := w') ?_ (hm2.put_root hK hd hX _ _ Mw (fun g hg => by simp [hMw g hg]) hk r' L1 hRD hnd (fun g hg => ⟨(hL1 g hg).1, by have := (hL1 g hg).2; simp only [List.mem_append] at this ⊢; grind⟩))
 simp [execOp, resolve, invoke, builtin, e0, hrun]
end
end Go.Pv
namespace Go.Pv
open Go.RowKit
inductive V where
 | one (d : D)
 | agg (ds : List D)
def VR (F : Nat → Prop) (w : World) : V → Value → List Nat → Prop
 | .one d, v, L => ∃ r, RD F w d r v L
 | .agg ds, v, L => ∃ r us, v = .agg us.toArray ∧ RDs F w ds 0 r us L
def VRs (F : Nat → Prop) (w : World) : List V → List Value → List Nat → Prop
 | [], us, L => us = [] ∧ L = []
 | x :: xs, us, L => ∃ u us' L1 L2, us = u :: us' ∧ L = L1 ++ L2 ∧ VR F w x u L1 ∧ VRs F w xs us' L2
inductive Arg where
 | sh (x : V)
 | mv (x : V)
 | io (d : D)
def ArgR (F : Nat → Prop) (w : World) : Arg → Value → List Nat → Prop
 | .sh x, v, L => L = [] ∧ VR F w x v []
 | .mv x, v, L => VR F w x v L
 | .io d, v, L => ∃ r, RD F w d r v L
def ArgsR (F : Nat → Prop) (w : World) : List Arg → List Value → List Nat → Prop
 | [], us, L => us = [] ∧ L = []
 | x :: xs, us, L => ∃ u us' L1 L2, us = u :: us' ∧ L = L1 ++ L2 ∧ ArgR F w x u L1 ∧ ArgsR F w xs us' L2
def OutsR (F : Nat → Prop) (w : World) : List Arg → List Value → List D → List Nat → Prop
 | [], _, ds, L => ds = [] ∧ L = []
 | .io _ :: xs, us, ds, L => ∃ u us' d ds' r L1 L2, us = u :: us' ∧ ds = d :: ds' ∧ L = L1 ++ L2 ∧ RD F w d r u L1 ∧ OutsR F w xs us' ds' L2
 | _ :: xs, us, ds, L => ∃ u us', us = u :: us' ∧ OutsR F w xs us' ds L
def retVal : List Value → Value
 | [v] => v
 | vs => .tuple vs.toArray
def Free (w : World) (M : List Nat) (g : Nat) : Prop := g < w.heap.size ∧ g ∉ M
def Res (own : Bool) (F : Nat → Prop) (g : Nat) : Prop := own = false ∧ F g
def CallG (own : Bool) (P : Program) (K : FuncId) (args : List Arg) (rs : List V) (outs : List D) : Prop :=
 ∀ (w : World) (vs : List Value) (M : List Nat) (F : Nat → Prop), (∀ g, F g → g < w.heap.size ∧ g ∉ M) → ArgsR F w args vs M → M.Nodup → (∀ g ∈ M, g < w.heap.size) →
  Calls P K vs.toArray w fun e w' => ∃ us Lr Lo, e = .returned (retVal us) ∧ Keep w M w' ∧ VRs (Res own F) w' rs us Lr ∧ OutsR (Res own F) w' args vs outs Lo ∧ (Lr ++ Lo).Nodup ∧
   ∀ g ∈ Lr ++ Lo, g < w'.heap.size ∧ (g ∈ M ∨ w.heap.size ≤ g)
def CallA := CallG true
def CallS := CallG false
class FnOk (P : Program) (K : FuncId) : Prop where
 out : ∃ fn, P.funcs[K]? = some fn ∧ fn.body.isSome = true ∧ (fn.name == "runtime.NumGoroutine") = false
section
variable {P : Program} {n : NN} {nid : Nat} {st : Nat → AV} {f : Fr} {X : Nat → Prop} {a : Act} {w : World} {ρ : Nat → Rho} {L : Nat → List Nat} {M : List Nat}
theorem run_call {K : FuncId} [hK : FnOk P K] {d : Option Nat} {xs : Array Operand} {ts : Array TypeId} {ty pos aft g} (ev : Operand → Value) (hev : ev (.func K) = .func (.func K) #[] #[]) (w : World) :
  (execOp ev ⟨d, .call ⟨.value (.func K), xs, ts⟩, ty, pos, aft, g⟩).run P w = .ok (.enter K (xs.map ev)) w := by
 obtain ⟨fn, h1, h2, h3⟩ := hK.out
 have h4 : ¬ fn.body = none := by cases h : fn.body <;> simp [h] at h2 ⊢
 have h3 : ¬ fn.name = "runtime.NumGoroutine" := by simpa using h3
 simp [execOp, resolve, hev, Deferred.ofValue, invoke, callFunc, h1, h3, h4]
theorem wp_of_enter {o : Oper} {a : Act} {w w1 : World} {K : Act → World → Prop} {Q : Exit → Act → World → Prop} {k : FuncId} {args : Array Value}
  (hr : (execOp a.eval o).run P w = .ok (.enter k args) w1) (hK : Calls P k args w1 fun e w' => ∃ v, e = .returned v ∧ K (a.put o.dst v) w') : o.wp P a w K Q := by
 unfold Oper.wp
 rw [hr]
 refine hK.mono fun e w' ⟨v, he, h⟩ => ?_
 subst he
 exact h
inductive ShowsAV (st : Nat → AV) : AV → List Nat → D → Prop
 | c {d} : ShowsAV st (.c d) [] d
 | raw {d d'} : d.erase = d' → ShowsAV st (.raw d) [] d'
 | ptr {x id cs cs'} : st x = .own id (.pt true cs) → D.erases cs = cs' → ShowsAV st (.ptr x id [] 0) [x] (.pt false cs')
 | sptr {cs} : ShowsAV st (.sptr cs 0) [] (.pt false cs)
 | als {x id path d sz cs cs'} : st x = .own id d → d.nav path = some (.sl true sz cs) → D.erases cs = cs' → ShowsAV st (.als x id path) [x] (.sl false sz cs')
inductive ShowsAVs (st : Nat → AV) : List AV → List Nat → List D → Prop
 | nil : ShowsAVs st [] [] []
 | cons {x xs rd rds d ds} : ShowsAV st x rd d → ShowsAVs st xs rds ds → ShowsAVs st (x :: xs) (rd ++ rds) (d :: ds)
theorem ShowsAV.agree {st st' : Nat → AV} {x : AV} {rd : List Nat} {d : D} (h : ShowsAV st x rd d) (hs : ∀ s ∈ rd, st' s = st s) : ShowsAV st' x rd d := by
 cases h with
 | c => exact .c
 | raw h => exact .raw h
 | ptr h1 h2 => exact .ptr ((hs _ (by simp)).trans h1) h2
 | sptr => exact .sptr
 | als h1 h2 h3 => exact .als ((hs _ (by simp)).trans h1) h2 h3
theorem ShowsAVs.agree {st st' : Nat → AV} : ∀ {xs : List AV} {rd : List Nat} {ds : List D}, ShowsAVs st xs rd ds → (∀ s ∈ rd, st' s = st s) → ShowsAVs st' xs rd ds
 | _, _, _, .nil, _ => .nil
 | _, _, _, .cons h1 h2, hs => .cons (h1.agree fun s hs' => hs s (by simp [hs'])) (ShowsAVs.agree h2 fun s hs' => hs s (by simp [hs']))
inductive Shows (st : Nat → AV) : Operand → List Nat → V → Prop
 | lit {x v} : Lit st x v → v.oneCell' = true → Shows st x (rdOf x) (.one (.lit v))
 | c {t d} : st t = .c d → Shows st (.tmp t) [t] (.one d)
 | view {x rd sz cs cs'} : View st x rd sz cs → D.erases cs = cs' → Shows st x rd (.one (.sl false sz cs'))
 | ptr {t x id cs cs'} : st t = .ptr x id [] 0 → st x = .own id (.pt true cs) → D.erases cs = cs' → Shows st (.tmp t) [t, x] (.one (.pt false cs'))
 | root {t id cs cs'} : st t = .own id (.pt true cs) → D.erases cs = cs' → Shows st (.tmp t) [t] (.one (.pt false cs'))
 | sptr {t cs} : st t = .sptr cs 0 → Shows st (.tmp t) [t] (.one (.pt false cs))
 | clo {t k l rd ds} : st t = .clo k l → ShowsAVs st l rd ds → Shows st (.tmp t) (t :: rd) (.one (.fn k ds))
 | func {k} : Shows st (.func k) [] (.one (.fn k []))
theorem Shows.agree {st st' : Nat → AV} {x : Operand} {rd : List Nat} {v : V} (h : Shows st x rd v) (hs : ∀ s ∈ rd, st' s = st s) : Shows st' x rd v := by
 cases h with
 | lit h h1 => exact .lit (h.agree hs) h1
 | c h => exact .c ((hs _ (by simp)).trans h)
 | view h h1 => exact .view (h.agree hs) h1
 | ptr h1 h2 h3 => exact .ptr ((hs _ (by simp)).trans h1) ((hs _ (by simp)).trans h2) h3
 | root h1 h2 => exact .root ((hs _ (by simp)).trans h1) h2
 | sptr h => exact .sptr ((hs _ (by simp)).trans h)
 | clo h1 h2 => exact .clo ((hs _ (by simp)).trans h1) (h2.agree fun s hs' => hs s (by simp [hs']))
 | func => exact .func
theorem RepM.free (h : RepM f X st a w ρ L M) {g : Nat} (hg : f.F g) : Free w M g := ⟨h.rep.F_lt hg, fun hm => (h.bound g hm).2 hg⟩
theorem RepM.free_slot (h : RepM f X st a w ρ L M) {t g : Nat} (hg : g ∈ L t) : Free w M g := ⟨(h.rep.bound t g hg).1, h.disj t g hg⟩
theorem ShowsAV.rd (h : RepM f X st a w ρ L M) {x : AV} {rd : List Nat} {d : D} (hv : ShowsAV st x rd d) {v : Value} {L0 : List Nat} (hx : SR f.F w ρ x v L0) (hL0 : ∀ g ∈ L0, Free w M g) : ∃ r, RD (Free w M) w d r v [] := by
 cases hv with
 | c =>
  simp only [SR] at hx
  obtain ⟨_, r, h1⟩ := hx
  exact ⟨r, RD.same (fun _ hg => h.free hg) (fun _ _ => rfl) _ r _ [] h1 (by simp)⟩
 | raw he =>
  subst he
  simp only [SR] at hx
  obtain ⟨r, h1⟩ := hx
  exact ⟨r, RD.erase (fun _ hg => h.free hg) _ r _ L0 h1 hL0⟩
 | @ptr x id cs cs' h1 h2 =>
  subst h2
  simp only [SR] at hx
  obtain ⟨_, b, hb, e1⟩ := hx
  have h3 := h.rep.slots x
  rw [h1] at h3
  simp only [SR] at h3
  have e : v = tmp a x := by
   simp only [RD] at h3
   obtain ⟨e2, g, us, L1, ty, e3, _⟩ := h3
   have e2 : tmp a x = ρ id [] := e2
   rw [← e2, e3] at hb
   simp only [baseOf, Option.some.injEq] at hb
   rw [e1, e3, ← hb]
   rfl
  rw [e]
  have h4 := RD.erase (F' := Free w M) (fun _ hg => h.free hg) _ _ _ _ h3 (fun g hg => h.free_slot hg)
  simp only [D.erase] at h4
  exact ⟨_, h4⟩
 | @sptr cs =>
  simp only [SR] at hx
  obtain ⟨_, b, us, r, e0, hb, hc, h5⟩ := hx
  refine ⟨r, ?_⟩
  simp only [RD]
  rw [add_zero'] at e0
  exact ⟨trivial, b, us, e0, h.free hb, hc, RDs.same (fun _ hg => h.free hg) (fun _ _ => rfl) cs 0 r us [] h5 (by simp)⟩
 | als h1 h2 h3 =>
  subst h3
  obtain ⟨v1, A, L1, B, eL, h4, _⟩ := h.rep.part h1 h2
  simp only [SR] at hx
  have e : v = v1 := by
   rw [hx.2]
   simp only [RD] at h4
   rw [h4.1, Rho.sub_nil]
  rw [e]
  have h5 := RD.erase (F' := Free w M) (fun _ hg => h.free hg) _ _ _ _ h4 (fun g hg => h.free_slot (by rw [eL]; simp [hg]))
  simp only [D.erase] at h5
  exact ⟨_, h5⟩
theorem ShowsAVs.rds (h : RepM f X st a w ρ L M) : ∀ {xs : List AV} {rd : List Nat} {ds : List D} {vs : List Value} {L0 : List Nat} (k : Nat), ShowsAVs st xs rd ds → SRs f.F w ρ xs vs L0 → (∀ g ∈ L0, Free w M g) → ∃ r, RDs (Free w M) w ds k r vs []
 | _, _, _, _, _, k, .nil, hx, _ => by simp only [SRs] at hx; exact ⟨fun _ => undef, by simp only [RDs]; exact ⟨hx.1, trivial⟩⟩
 | _, _, _, _, _, k, .cons (d := d) (ds := ds) h1 h2, hx, hL0 => by
  simp only [SRs] at hx
  obtain ⟨v, vs', L1, L2, rfl, rfl, h3, h4⟩ := hx
  obtain ⟨r1, e1⟩ := h1.rd h h3 (fun g hg => hL0 g (by simp [hg]))
  obtain ⟨r2, e2⟩ := ShowsAVs.rds h (k + 1) h2 h4 (fun g hg => hL0 g (by simp [hg]))
  refine ⟨fun π => match π with | [] => undef | j :: q => if j = k then r1 q else r2 (j :: q), ?_⟩
  simp only [RDs]
  refine ⟨v, vs', [], [], rfl, rfl, RD.rho d r1 _ v [] e1 (fun π => by simp [Rho.at]), RDs.rho ds (k + 1) r2 _ vs' [] e2 (fun j hj => ?_)⟩
  funext π
  simp [Rho.at, show j ≠ k from by omega]
theorem Shows.rd (h : RepM f X st a w ρ L M) {x : Operand} {rd : List Nat} {v : V} (hv : Shows st x rd v) : VR (Free w M) w v (a.eval x) [] := by
 cases hv with
 | @lit x v hl h1 =>
  rw [Lit.eval h.rep hl]
  exact ⟨fun _ => undef, by simp only [RD]; exact ⟨trivial, h1, trivial⟩⟩
 | @c t d ht =>
  have := h.rep.slots t
  rw [ht] at this
  simp only [SR] at this
  obtain ⟨_, r, h1⟩ := this
  exact ⟨r, RD.same (fun _ hg => h.free hg) (fun _ _ => rfl) d r _ [] h1 (by simp)⟩
 | @view x rd sz cs cs' hv he =>
  subst he
  cases hv with
  | @sh t sz cs ht =>
   have := h.rep.slots t
   rw [ht] at this
   simp only [SR] at this
   obtain ⟨_, r, h1⟩ := this
   have h2 := RD.erase (F' := Free w M) (fun _ hg => h.free hg) _ r _ [] h1 (by simp)
   simp only [D.erase] at h2
   exact ⟨r, h2⟩
  | @root t id sz cs ht =>
   have := h.rep.slots t
   rw [ht] at this
   simp only [SR] at this
   have h2 := RD.erase (F' := Free w M) (fun _ hg => h.free hg) _ _ _ _ this (fun g hg => h.free_slot hg)
   simp only [D.erase] at h2
   exact ⟨_, h2⟩
  | @als t x id path d sz cs ht hx hn =>
   obtain ⟨v1, A, L1, B, eL, h1, _⟩ := h.rep.part hx hn
   have ht' := h.rep.slots t
   rw [ht] at ht'
   simp only [SR] at ht'
   have e : a.eval (.tmp t) = v1 := by
    have : a.eval (.tmp t) = ρ id path := ht'.2
    rw [this]
    simp only [RD] at h1
    rw [h1.1, Rho.sub_nil]
   rw [e]
   have h2 := RD.erase (F' := Free w M) (fun _ hg => h.free hg) _ _ _ _ h1 (fun g hg => h.free_slot (t := x) (by rw [eL]; simp [hg]))
   simp only [D.erase] at h2
   exact ⟨_, h2⟩
  | @sub t x id path d sz lo n cs ht hx hn =>
   obtain ⟨us, L0, L1, h1, h2, h3⟩ := h.rep.partSl hx hn
   have := h.rep.slots t
   rw [ht] at this
   simp only [SR] at this
   obtain ⟨_, a0, n0, c0, a1, c1, e1, e2, e3, e4, e5, e6⟩ := this
   have hsh : ShRow (Free w M) w (ρ id path) sz us := by
    rcases h1 with ⟨e, rfl, rfl⟩ | ⟨g, o, n, cap, cur, e, h1, h4, h5, h6, h7, h8, h9, rfl⟩
    ·exact ⟨none, 0, 0, e, by simp, Nat.le_refl _, Nat.zero_le _, fun h => absurd rfl h⟩
    ·refine ⟨some ⟨g, o, none⟩, n, cap, h1, h5, h6, h7, fun _ => ⟨_, rfl, h.free_slot (h3 g (by simp)), fun j u hu => ?_⟩⟩
     rw [addr_off]
     exact cell_off h4 h9 hu
   have her := RDs.erase (F' := Free w M) (fun _ hg => h.free hg) cs 0 _ us L1 h2 (fun g hg => h.free_slot (h3 g (.inr hg)))
   obtain ⟨r, hr⟩ := RDs.cut (lo * sz) (n * sz) _ _ _ _ her
   refine ⟨r, ?_⟩
   simp only [RD]
   refine ⟨trivial, _, ?_, by rw [D.erases_eq, List.map_take, List.map_drop, ← D.erases_eq]; exact hr⟩
   change ShRow _ _ (tmp a t) _ _
   rw [e2]
   exact hsh.cut e1 e3 e4 e5 (fun hne => (e6 hne).2)
  | @nil sz =>
   exact ⟨fun _ => undef, by simp only [RD, D.erases]; exact ⟨trivial, [], ⟨none, 0, 0, rfl, by simp, Nat.le_refl _, Nat.zero_le _, fun h => absurd rfl h⟩, by simp [RDs]⟩⟩
 | @ptr t x id cs cs' ht hx he =>
  subst he
  have h1 := h.rep.slots t
  rw [ht] at h1
  simp only [SR] at h1
  obtain ⟨_, b, hb, h1⟩ := h1
  have h2 := h.rep.slots x
  rw [hx] at h2
  simp only [SR] at h2
  have e : a.eval (.tmp t) = tmp a x := by
   have e1 : a.eval (.tmp t) = _ := h1
   rw [e1]
   simp only [RD] at h2
   obtain ⟨e2, g, us, L1, ty, e3, _⟩ := h2
   rw [← e2, e3] at hb
   simp only [baseOf, Option.some.injEq] at hb
   rw [e3, ← hb]
   rfl
  rw [e]
  have h3 := RD.erase (F' := Free w M) (fun _ hg => h.free hg) _ _ _ _ h2 (fun g hg => h.free_slot hg)
  simp only [D.erase] at h3
  exact ⟨_, h3⟩
 | @root t id cs cs' ht he =>
  subst he
  have h2 := h.rep.slots t
  rw [ht] at h2
  simp only [SR] at h2
  have h3 := RD.erase (F' := Free w M) (fun _ hg => h.free hg) _ _ _ _ h2 (fun g hg => h.free_slot hg)
  simp only [D.erase] at h3
  exact ⟨_, h3⟩
 | @sptr t cs ht =>
  have h1 := h.rep.slots t
  rw [ht] at h1
  simp only [SR] at h1
  obtain ⟨_, b, us, r, e0, hb, hc, h5⟩ := h1
  refine ⟨r, ?_⟩
  simp only [RD]
  have e1 : a.eval (.tmp t) = _ := e0
  rw [add_zero'] at e1
  exact ⟨trivial, b, us, e1, h.free hb, hc, RDs.same (fun _ hg => h.free hg) (fun _ _ => rfl) cs 0 r us [] h5 (by simp)⟩
 | @clo t k l rd ds ht hl =>
  have h1 := h.rep.slots t
  rw [ht] at h1
  simp only [SR] at h1
  obtain ⟨vs, e0, hv⟩ := h1
  obtain ⟨r, e1⟩ := hl.rds h 0 hv (fun g hg => h.free_slot hg)
  refine ⟨r, ?_⟩
  simp only [RD]
  exact ⟨trivial, vs, e0, e1⟩
 | @func k =>
  refine ⟨fun _ => undef, ?_⟩
  simp only [RD, RDs]
  exact ⟨trivial, [], rfl, rfl, trivial⟩
inductive Moves : (Nat → AV) → List Operand → List Arg → List Nat → List (Nat × AV) → Prop
 | nil {s0 : Nat → AV} : Moves s0 [] [] [] []
 | sh {s0 : Nat → AV} {x : Operand} {xs : List Operand} {v : V} {args : List Arg} {rd : List Nat} {up : List (Nat × AV)} : Moves s0 xs args rd up → Moves s0 (x :: xs) (.sh v :: args) rd up
 | mv {s0 : Nat → AV} {x : Operand} {xs : List Operand} {d : D} {args : List Arg} {rd rds : List Nat} {up ups : List (Nat × AV)} : Give s0 x rd d up → Moves (puts s0 up) xs args rds ups → Moves s0 (x :: xs) (.mv (.one d) :: args) (rd ++ rds) (up ++ ups)
 | mvAgg {s0 : Nat → AV} {t : Nat} {l : List AV} {ds : List D} {xs : List Operand} {args : List Arg} {rds : List Nat} {ups : List (Nat × AV)} : s0 t = .agg l → AV.dats l = some ds → Moves (put s0 t .dead) xs args rds ups → Moves s0 (.tmp t :: xs) (.mv (.agg ds) :: args) (t :: rds) ((t, .dead) :: ups)
inductive Reads (st : Nat → AV) : List Operand → List Arg → List Nat → Prop
 | nil : Reads st [] [] []
 | sh {x xs v args rd rds} : Shows st x rd v → Reads st xs args rds → Reads st (x :: xs) (.sh v :: args) (rd ++ rds)
 | shAgg {t l ds xs args rd rds} : st t = .agg l → ShowsAVs st l rd ds → Reads st xs args rds → Reads st (.tmp t :: xs) (.sh (.agg ds) :: args) (t :: rd ++ rds)
 | mv {x xs v args rds} : Reads st xs args rds → Reads st (x :: xs) (.mv v :: args) rds
theorem Moves.agree : ∀ {st st' : Nat → AV} {xs : List Operand} {args : List Arg} {rd : List Nat} {up : List (Nat × AV)}, Moves st xs args rd up → (∀ s ∈ rd, st' s = st s) → Moves st' xs args rd up
 | _, _, _, _, _, _, .nil, _ => .nil
 | _, _, _, _, _, _, .sh h, hs => .sh (Moves.agree h hs)
 | _, _, _, _, _, _, .mv h1 h2, hs => .mv (h1.agree fun s hs' => hs s (by simp [hs'])) (Moves.agree h2 fun s hs' => puts_agree _ _ (hs s (by simp [hs'])))
 | _, _, _, _, _, _, .mvAgg h1 h2 h3, hs => .mvAgg ((hs _ (by simp)).trans h1) h2 (Moves.agree h3 fun s hs' => puts_agree [(_, _)] s (hs s (by simp [hs'])))
theorem Reads.agree {st st' : Nat → AV} : ∀ {xs : List Operand} {args : List Arg} {rd : List Nat}, Reads st xs args rd → (∀ s ∈ rd, st' s = st s) → Reads st' xs args rd
 | _, _, _, .nil, _ => .nil
 | _, _, _, .sh h1 h2, hs => .sh (h1.agree fun s hs' => hs s (by simp [hs'])) (Reads.agree h2 fun s hs' => hs s (by simp [hs']))
 | _, _, _, .shAgg h1 h2 h3, hs => .shAgg ((hs _ (by simp)).trans h1) (h2.agree fun s hs' => hs s (by simp [hs'])) (Reads.agree h3 fun s hs' => hs s (by simp [hs']))
 | _, _, _, .mv h, hs => .mv (Reads.agree h hs)
inductive MovedR (F : Nat → Prop) (w : World) (ev : Operand → Value) : List Operand → List Arg → List Nat → Prop
 | nil : MovedR F w ev [] [] []
 | sh {x xs v args L} : MovedR F w ev xs args L → MovedR F w ev (x :: xs) (.sh v :: args) L
 | mv {x xs v args L1 L} : VR F w v (ev x) L1 → MovedR F w ev xs args L → MovedR F w ev (x :: xs) (.mv v :: args) (L1 ++ L)
theorem RepM.moves : ∀ {st : Nat → AV} {L : Nat → List Nat} {M : List Nat}, RepM f X st a w ρ L M → ∀ {xs : List Operand} {args : List Arg} {rd : List Nat} {up : List (Nat × AV)}, Moves st xs args rd up →
  ∃ L' M1, RepM f X (puts st up) a w ρ L' (M ++ M1) ∧ MovedR f.F w a.eval xs args M1
 | st, L, M, h, _, _, _, _, .nil => ⟨L, [], by simpa [puts] using h, .nil⟩
 | st, L, M, h, _, _, _, _, .sh h1 => by
  obtain ⟨L', M1, hm, hr⟩ := RepM.moves h h1
  exact ⟨L', M1, hm, .sh hr⟩
 | st, L, M, h, _, _, _, _, .mv h1 h2 => by
  obtain ⟨r1, L1, M1, hm1, hr1⟩ := h.give h1
  obtain ⟨L2, M2, hm2, hr2⟩ := RepM.moves hm1 h2
  exact ⟨L2, M1 ++ M2, by rw [puts_append, ← List.append_assoc]; exact hm2, .mv ⟨r1, hr1⟩ hr2⟩
 | st, L, M, h, _, _, _, _, .mvAgg (t := t) (l := l) (ds := ds) h1 h2 h3 => by
  have ht := h.rep.slots t
  rw [h1] at ht
  simp only [SR] at ht
  obtain ⟨vs, e0, hv⟩ := ht
  obtain ⟨r, hv⟩ := hv.dats l ds 0 vs (L t) h2
  have hm1 := h.detach t .dead [] (L t) (by simp only [SR]) (by simp [AV.ids]) (fun g hg => by simpa using hg) List.nodup_nil (h.rep.nodup t) (by simp)
  obtain ⟨L2, M2, hm2, hr2⟩ := RepM.moves hm1 h3
  exact ⟨L2, L t ++ M2, by rw [← List.append_assoc]; exact hm2, .mv ⟨r, vs, e0, hv⟩ hr2⟩
theorem VR.same {F F' : Nat → Prop} {w w' : World} (hF : ∀ g, F g → F' g) (hs : ∀ g, F g → Same w w' g) {v : V} {u : Value} {L0 : List Nat} (h : VR F w v u L0) (hL : ∀ g ∈ L0, Same w w' g) : VR F' w' v u L0 := by
 cases v with
 | one d => obtain ⟨r, h⟩ := h; exact ⟨r, RD.same hF hs d r u L0 h hL⟩
 | agg ds => obtain ⟨r, us, e, h⟩ := h; exact ⟨r, us, e, RDs.same hF hs ds 0 r us L0 h hL⟩
theorem args_of {rd : List Nat} (h : RepM f X st a w ρ L M) : ∀ {xs : List Operand} {args : List Arg} {M1 : List Nat}, MovedR f.F w a.eval xs args M1 → ∀ {rd : List Nat}, Reads st xs args rd → ArgsR (Free w M) w args (xs.map a.eval) M1
 | _, _, _, .nil, _, .nil => by simp [ArgsR]
 | _, _, _, .sh h1, _, .sh h2 h3 => by
  simp only [ArgsR, List.map_cons]
  exact ⟨_, _, [], _, rfl, rfl, ⟨rfl, h2.rd h⟩, args_of (rd := rd) h h1 h3⟩
 | _, _, _, .sh h1, _, .shAgg (t := t) h2 h4 h3 => by
  simp only [ArgsR, List.map_cons]
  have ht := h.rep.slots t
  rw [h2] at ht
  simp only [SR] at ht
  obtain ⟨vs, e0, hv⟩ := ht
  obtain ⟨r, e1⟩ := h4.rds h 0 hv (fun g hg => h.free_slot hg)
  exact ⟨_, _, [], _, rfl, rfl, ⟨rfl, r, vs, e0, e1⟩, args_of (rd := rd) h h1 h3⟩
 | _, _, _, .mv h1 h2, _, .mv h3 => by
  simp only [ArgsR, List.map_cons]
  exact ⟨_, _, _, _, rfl, rfl, h1.same (fun _ hg => h.free hg) (fun _ _ => rfl) (fun _ _ => rfl), args_of (rd := rd) h h2 h3⟩
def V.av : V → AV
 | .one (.lit v) => .c (.lit v)
 | .one d => .raw d
 | .agg ds => .agg (ds.map AV.raw)
def resAV (nid : Nat) : List V → AV
 | [] => .dead
 | [v] => match v with
  | .one (.lit v) => .c (.lit v)
  | .one d => .own nid d
  | .agg ds => .agg (ds.map AV.raw)
 | vs => .tup (vs.map V.av)
theorem SRs_raws {F : Nat → Prop} {w : World} {ρ : Nat → Rho} : ∀ (ds : List D) (k : Nat) (r : Rho) (us : List Value) (L : List Nat), RDs F w ds k r us L → SRs F w ρ (ds.map AV.raw) us L
 | [], _, _, _, _, h => by simpa only [RDs, SRs, List.map_nil] using h
 | d :: ds, k, r, us, L, h => by
  simp only [RDs] at h
  obtain ⟨u, us', L1, L2, rfl, rfl, h1, h2⟩ := h
  simp only [List.map_cons, SRs, SR]
  exact ⟨u, us', L1, L2, rfl, rfl, ⟨_, h1⟩, SRs_raws ds (k + 1) r us' L2 h2⟩
theorem SR_av {F : Nat → Prop} {w : World} {ρ : Nat → Rho} {v : V} {u : Value} {L : List Nat} (h : VR F w v u L) : SR F w ρ v.av u L := by
 cases v with
 | one d =>
  cases d with
  | lit u' =>
   obtain ⟨r, h⟩ := h
   simp only [V.av, SR]
   have h' := h
   simp only [RD] at h'
   obtain ⟨_, _, rfl⟩ := h'
   exact ⟨rfl, r, h⟩
  | _ => simp only [V.av, SR]; exact h
 | agg ds => obtain ⟨r, us, e, h⟩ := h; simp only [V.av, SR]; exact ⟨us, e, SRs_raws ds 0 r us L h⟩
theorem SRs_avs {F : Nat → Prop} {w : World} {ρ : Nat → Rho} : ∀ (vs : List V) (us : List Value) (L : List Nat), VRs F w vs us L → SRs F w ρ (vs.map V.av) us L
 | [], _, _, h => by simpa only [VRs, SRs, List.map_nil] using h
 | v :: vs, us, L, h => by
  simp only [VRs] at h
  obtain ⟨u, us', L1, L2, rfl, rfl, h1, h2⟩ := h
  simp only [List.map_cons, SRs]
  exact ⟨u, us', L1, L2, rfl, rfl, SR_av h1, SRs_avs vs us' L2 h2⟩
theorem idss_raws (ds : List D) : AV.idss (ds.map AV.raw) = [] := by
 induction ds with
 | nil => rfl
 | cons d ds ih => simp [AV.idss, AV.ids, ih]
theorem idss_avs (vs : List V) : AV.idss (vs.map V.av) = [] := by
 induction vs with
 | nil => rfl
 | cons v vs ih =>
  cases v with
  | one d => cases d <;> simp [AV.idss, AV.ids, V.av, ih]
  | agg ds => simp [AV.idss, AV.ids, V.av, idss_raws, ih]
theorem VRs.length {F : Nat → Prop} {w : World} : ∀ {vs : List V} {us : List Value} {L : List Nat}, VRs F w vs us L → us.length = vs.length
 | [], _, _, h => by simp only [VRs] at h; simp [h.1]
 | v :: vs, us, L, h => by
  simp only [VRs] at h
  obtain ⟨u, us', L1, L2, rfl, _, _, h2⟩ := h
  simp [VRs.length h2]
theorem RepM.put_res {K : Act → World → Prop} (h : RepM f X st a w ρ L M) {d : Nat} {rs : List V} (hK : ∀ a' w', Rep f (fun i => X i ∨ i = nid) (put st d (resAV nid rs)) a' w' → K a' w') (hd : f.N d = true) (hid : ¬ X nid) (us : List Value) (w' : World) (hk : Keep w M w') (Lr : List Nat)
  (hv : VRs f.F w' rs us Lr) (hn : Lr.Nodup) (hL : ∀ g ∈ Lr, g < w'.heap.size ∧ (g ∈ M ∨ w.heap.size ≤ g)) : K (a.put (some d) (retVal us)) w' := by
 have gen : ∀ av, (SR f.F w' ρ av (retVal us) Lr) → av.ids = [] → (∀ a' w', Rep f (fun i => X i ∨ i = nid) (put st d av) a' w' → K a' w') → K (a.put (some d) (retVal us)) w' := by
  intro av h1 h2 h3
  exact h.put_raw h3 hd _ w' M (fun _ h => h) hk Lr h1 hn hL (by simp [h2])
 have hl := hv.length
 match rs, hK, hv, hl with
 | [], hK, hv, hl =>
  simp only [VRs] at hv
  obtain ⟨rfl, rfl⟩ := hv
  exact gen .dead (by simp only [SR]) rfl hK
 | [.one (.lit u)], hK, hv, hl =>
  simp only [VRs] at hv
  obtain ⟨u', us', L1, L2, rfl, rfl, ⟨r, h1⟩, rfl, rfl⟩ := hv
  simp only [RD] at h1
  obtain ⟨rfl, h2, rfl⟩ := h1
  exact gen (.c (.lit u')) (by simp only [SR, RD, retVal]; exact ⟨rfl, fun _ => undef, trivial, h2, trivial⟩) rfl hK
 | [.one (.sl o sz cs)], hK, hv, hl =>
  simp only [VRs] at hv
  obtain ⟨u', us', L1, L2, rfl, rfl, ⟨r, h1⟩, rfl, rfl⟩ := hv
  exact h.put_root hK hd hid _ w' M (fun _ h => h) hk r _ (by simpa [retVal] using h1) hn hL
 | [.one (.pt o cs)], hK, hv, hl =>
  simp only [VRs] at hv
  obtain ⟨u', us', L1, L2, rfl, rfl, ⟨r, h1⟩, rfl, rfl⟩ := hv
  exact h.put_root hK hd hid _ w' M (fun _ h => h) hk r _ (by simpa [retVal] using h1) hn hL
 | [.one .hole], hK, hv, hl =>
  simp only [VRs] at hv
  obtain ⟨u', us', L1, L2, rfl, rfl, ⟨r, h1⟩, rfl, rfl⟩ := hv
  exact h.put_root hK hd hid _ w' M (fun _ h => h) hk r _ (by simpa [retVal] using h1) hn hL
 | [.one (.fn g cs)], hK, hv, hl =>
  simp only [VRs] at hv
  obtain ⟨u', us', L1, L2, rfl, rfl, ⟨r, h1⟩, rfl, rfl⟩ := hv
  exact h.put_root hK hd hid _ w' M (fun _ h => h) hk r _ (by simpa [retVal] using h1) hn hL
 | [.agg ds], hK, hv, hl =>
  simp only [VRs] at hv
  obtain ⟨u', us', L1, L2, rfl, rfl, h1, rfl, rfl⟩ := hv
  refine gen (.agg (ds.map AV.raw)) ?_ (by simp only [AV.ids, idss_raws]) hK
  have := SR_av (ρ := ρ) h1
  simpa [V.av, retVal] using this
 | v1 :: v2 :: vs, hK, hv, hl =>
  have e : resAV nid (v1 :: v2 :: vs) = .tup ((v1 :: v2 :: vs).map V.av) := rfl
  rw [e] at hK
  refine gen _ ?_ (by simp only [AV.ids, idss_avs]) hK
  simp only [SR]
  refine ⟨us, ?_, SRs_avs _ us Lr hv⟩
  match us, hl with
  | [u], hl => simp at hl
  | [], hl => simp at hl
  | u1 :: u2 :: us', _ => rfl
theorem VRs.same {F F' : Nat → Prop} {w w' : World} (hF : ∀ g, F g → F' g) (hs : ∀ g, F g → Same w w' g) : ∀ {vs : List V} {us : List Value} {L0 : List Nat}, VRs F w vs us L0 → (∀ g ∈ L0, Same w w' g) → VRs F' w' vs us L0
 | [], _, _, h, _ => by simpa only [VRs] using h
 | v :: vs, us, L0, h, hL => by
  simp only [VRs] at h ⊢
  obtain ⟨u, us', L1, L2, rfl, rfl, h1, h2⟩ := h
  exact ⟨u, us', L1, L2, rfl, rfl, h1.same hF hs (fun g hg => hL g (by simp [hg])), VRs.same hF hs h2 (fun g hg => hL g (by simp [hg]))⟩
theorem outs_nil {F FF : Nat → Prop} {ev : Operand → Value} {w w' : World} {args : List Arg} {xs : List Operand} {M1 : List Nat} (hm : MovedR F w ev xs args M1) : ∀ vs Lo, OutsR FF w' args vs [] Lo → Lo = [] := by
 induction hm with
 | nil => intro vs Lo ho; simp only [OutsR] at ho; exact ho.2
 | sh _ ih => intro vs Lo ho; simp only [OutsR] at ho; obtain ⟨u, us', _, ho⟩ := ho; exact ih _ _ ho
 | mv _ _ ih => intro vs Lo ho; simp only [OutsR] at ho; obtain ⟨u, us', _, ho⟩ := ho; exact ih _ _ ho
theorem sC_ {d : Nat} {K : FuncId} {xs : Array Operand} {ts : Array TypeId} {args : List Arg} {rs : List V} {rd rd2 : List Nat} {up : List (Nat × AV)} {ty pos aft g} [FnOk P K] (hc : CallA P K args rs []) (hm : Moves st xs.toList args rd up) (hr : Reads (puts st up) xs.toList args rd2) (hd : n d = true) :
  Step P n ⟨some d, .call ⟨.value (.func K), xs, ts⟩, ty, pos, aft, g⟩ nid st (rd ++ rd2) (up ++ [(d, resAV nid rs)]) := by
 intro X st' hs hX f a w hn hrep Kk Q hK
 obtain ⟨ρ, L, h⟩ := hrep
 subst hn
 have hm' := hm.agree (st' := st') fun s hs' => hs s (List.mem_append_left _ hs')
 obtain ⟨L', M1, h1, h2⟩ := h.toM.moves hm'
 rw [puts_append] at hK
 rw [List.nil_append] at h1
 have h3 := args_of (rd := []) h1 h2 (hr.agree (st' := puts st' up) fun s hs' => puts_agree _ _ (hs s (List.mem_append_right _ hs')))
 refine wp_of_enter (run_call a.eval rfl w) ?_
 have e : xs.map a.eval = (xs.toList.map a.eval).toArray := by apply Array.ext'; rw [Array.toList_map]
 rw [e]
 refine (hc w _ M1 (Free w M1) (fun _ h => h) h3 h1.nd (fun g hg => (h1.bound g hg).1)).mono ?_
 rintro e w' ⟨us, Lr, Lo, rfl, hk, hv, ho, hnd, hL⟩
 have hLo : Lo = [] := outs_nil h2 _ _ ho
 subst hLo
 rw [List.append_nil] at hnd hL
 exact ⟨_, rfl, h1.put_res hK hd hX us w' hk Lr (hv.same (fun g hg => by cases hg.1) (fun g hg => by cases hg.1) (fun _ _ => rfl)) hnd hL⟩
end
end Go.Pv
namespace Go.Pv
open Go.RowKit
section
variable {P : Program} {n : NN} {st : Nat → AV} {nx : Nat}
theorem Rep.weaken {f : Fr} {X X' : Nat → Prop} {a : Act} {w : World} (h : Rep f X st a w) (hX : ∀ i, X i → X' i) : Rep f X' st a w :=
 let ⟨ρ, L, h⟩ := h
 ⟨ρ, L, h.weaken hX⟩
theorem RepX.weaken {f : Fr} {X X' : Nat → Prop} {a : Act} {w : World} (h : RepX f X st a w) (hX : ∀ i, X i → X' i) : RepX f X' st a w :=
 let ⟨f', k, h⟩ := h
 ⟨f', k, h.weaken hX⟩
def RunL (P : Program) (n : NN) (ops : Array Oper) (l : List Oper) (st : Nat → AV) (nx : Nat) (Q : (Nat → AV) → Nat → Prop) : Prop :=
 ∀ (f : Fr) (a : Act) (w : World) (Q' : Exit → Act → World → Prop), f.N = n → RepX f (fun i => i < nx) st a w →
  (∀ st' nx' a' w', Q st' nx' → RepX f (fun i => i < nx') st' a' w' → Q' .normal a' w') → wpList P ops Q' l a w
theorem RunL.nil {ops : Array Oper} {Q : (Nat → AV) → Nat → Prop} (h : Q st nx) : RunL P n ops [] st nx Q :=
 fun _ a w _ _ hr hQ => hQ st nx a w h hr
theorem RunL.cons {ops : Array Oper} {Q : (Nat → AV) → Nat → Prop} {d op ty pos aft} {l : List Oper} {rd : List Nat} {up : List (Nat × AV)} (hs : Step P n ⟨d, op, ty, pos, aft, none⟩ nx st rd up) (h : RunL P n ops l (puts st up) (nx + 1) Q) : RunL P n ops (⟨d, op, ty, pos, aft, none⟩ :: l) st nx Q := by
 intro f a w Q' hn hr hQ
 refine wpList_plain rfl fun K hK => hs.x (fun i => i < nx) st (fun _ _ => rfl) (by omega) f a w hn hr K Q' (fun a' w' hr' => hK a' w' (h f a' w' Q' hn (hr'.weaken (fun i hi => by omega)) hQ))
theorem yielded_lit {f : Fr} {X : Nat → Prop} {a : Act} {w : World} {ops : Array Oper} {j t : Nat} {b : Bool} (hr : RepX f X st a w) (hd : (ops[j]?).bind (·.dst) = some t) (ht : st t = .c (.lit (.bool b))) : yielded ops a.tmps j = some b := by
 obtain ⟨f', _, ρ, L, h⟩ := hr
 have := h.slots t
 rw [ht] at this
 simp only [SR, RD] at this
 have e := this.2.choose_spec.1
 unfold tmp at e
 rw [Array.getD_eq_getD_getElem?] at e
 unfold yielded
 rw [hd]
 simp only [Option.bind_some]
 cases hc : a.tmps[t]? with
 | none => rw [hc] at e; simp [undef] at e
 | some v => rw [hc] at e; simp at e; subst e; rfl
theorem yielded_undef {f : Fr} {X : Nat → Prop} {a : Act} {w : World} {ops : Array Oper} {j t : Nat} (hr : RepX f X st a w) (hd : (ops[j]?).bind (·.dst) = some t) (ht : st t = .tup []) : yielded ops a.tmps j = none := by
 obtain ⟨f', _, ρ, L, h⟩ := hr
 have := h.slots t
 rw [ht] at this
 simp only [SR, SRs] at this
 obtain ⟨vs, e, rfl, _⟩ := this
 unfold tmp at e
 rw [Array.getD_eq_getD_getElem?] at e
 unfold yielded
 rw [hd]
 simp only [Option.bind_some]
 cases hc : a.tmps[t]? with
 | none => rfl
 | some v => rw [hc] at e; simp at e; subst e; rfl
theorem RunL.doit {ops : Array Oper} {Q : (Nat → AV) → Nat → Prop} {d op ty pos aft j b t} {l : List Oper} {rd : List Nat} {up : List (Nat × AV)} (hd : (ops[j]?).bind (·.dst) = some t) (ht : st t = .c (.lit (.bool b)))
  (hs : Step P n ⟨d, op, ty, pos, aft, some (j, b)⟩ nx st rd up) (h : RunL P n ops l (puts st up) (nx + 1) Q) : RunL P n ops (⟨d, op, ty, pos, aft, some (j, b)⟩ :: l) st nx Q := by
 intro f a w Q' hn hr hQ
 refine wpList_step fun K hK => ?_
 have hy := yielded_lit hr hd ht
 simp only [Region.wanted, hy, beq_self_eq_true, if_true]
 exact hs.x (fun i => i < nx) st (fun _ _ => rfl) (by omega) f a w hn hr K Q' (fun a' w' hr' => hK a' w' (h f a' w' Q' hn (hr'.weaken (fun i hi => by omega)) hQ))
theorem Rep.skip {f : Fr} {X : Nat → Prop} {a : Act} {w : World} (h : Rep f X st a w) {d : Nat} (hd : f.N d = true) : Rep f X (put st d (.tup [])) (a.put (some d) undef) w := by
 obtain ⟨ρ, L, h⟩ := h
 exact ⟨ρ, _, h.put_light d hd (.tup []) undef w (Keep.refl w) (by simp only [SR, SRs]; exact ⟨[], rfl, rfl, trivial⟩) (by simp [AV.ids, AV.idss])⟩
theorem RepX.skip {f : Fr} {X : Nat → Prop} {a : Act} {w : World} (h : RepX f X st a w) {d : Nat} (hd : f.N d = true) : RepX f X (put st d (.tup [])) (a.put (some d) undef) w :=
 let ⟨f', k, h⟩ := h
 ⟨f', k, h.skip (by rw [k.N]; exact hd)⟩
theorem RunL.pass {ops : Array Oper} {Q : (Nat → AV) → Nat → Prop} {d op ty pos aft j b b' t} {l : List Oper} (hd : (ops[j]?).bind (·.dst) = some t) (ht : st t = .c (.lit (.bool b))) (hb : b = !b') (hdn : n d = true)
  (h : RunL P n ops l (put st d (.tup [])) nx Q) : RunL P n ops (⟨some d, op, ty, pos, aft, some (j, b')⟩ :: l) st nx Q := by
 intro f a w Q' hn hr hQ
 refine wpList_step fun K hK => ?_
 have hy := yielded_lit hr hd ht
 have hw : Region.wanted ⟨some d, op, ty, pos, aft, some (j, b')⟩ (yielded ops a.tmps) = false := by
  simp only [Region.wanted, hy, hb]
  cases b' <;> rfl
 simp only [hw, Bool.false_eq_true, if_false]
 subst hn
 exact hK _ _ (h f _ w Q' rfl (hr.skip hdn) hQ)
theorem RunL.pass_undef {ops : Array Oper} {Q : (Nat → AV) → Nat → Prop} {d op ty pos aft j b' t} {l : List Oper} (hd : (ops[j]?).bind (·.dst) = some t) (ht : st t = .tup []) (hdn : n d = true)
  (h : RunL P n ops l (put st d (.tup [])) nx Q) : RunL P n ops (⟨some d, op, ty, pos, aft, some (j, b')⟩ :: l) st nx Q := by
 intro f a w Q' hn hr hQ
 refine wpList_step fun K hK => ?_
 have hy := yielded_undef hr hd ht
 have hw : Region.wanted ⟨some d, op, ty, pos, aft, some (j, b')⟩ (yielded ops a.tmps) = false := by
  simp only [Region.wanted, hy]
  rfl
 simp only [hw, Bool.false_eq_true, if_false]
 subst hn
 exact hK _ _ (h f _ w Q' rfl (hr.skip hdn) hQ)
def WpA (P : Program) (n : NN) (c : Code) (st : Nat → AV) (nx : Nat) (Q : Exit → (Nat → AV) → Nat → Prop) : Prop :=
 ∀ (f : Fr) (a : Act) (w : World), f.N = n → RepX f (fun i => i < nx) st a w → c.wp P (fun e a' w' => ∃ st' nx', Q e st' nx' ∧ RepX f (fun i => i < nx') st' a' w') a w
def Then (K : (Nat → AV) → Nat → Prop) (Q : Exit → (Nat → AV) → Nat → Prop) : Exit → (Nat → AV) → Nat → Prop
 | .normal, st, nx => K st nx
 | e, st, nx => Q e st nx
def InBlock (id : Nat) (Q : Exit → (Nat → AV) → Nat → Prop) : Exit → (Nat → AV) → Nat → Prop
 | .exit id', st, nx => if id' = id then Q .normal st nx else Q (.exit id') st nx
 | e, st, nx => Q e st nx
variable {Q : Exit → (Nat → AV) → Nat → Prop}
theorem WpA.of0 {c : Code} (h : ∀ (f : Fr) (a : Act) (w : World), f.N = n → Rep f (fun i => i < nx) st a w → c.wp P (fun e a' w' => ∃ st' nx', Q e st' nx' ∧ RepX f (fun i => i < nx') st' a' w') a w) : WpA P n c st nx Q :=
 fun _ a w hn ⟨f', k, hr⟩ => Code.wp_mono (fun _ _ _ ⟨s, m, q, r⟩ => ⟨s, m, q, r.up k⟩) (h f' a w (k.N.trans hn) hr)
theorem WpA.mono {c : Code} {Q' : Exit → (Nat → AV) → Nat → Prop} (h : WpA P n c st nx Q) (hq : ∀ e s k, Q e s k → Q' e s k) : WpA P n c st nx Q' :=
 fun f a w hn hr => Code.wp_mono (fun _ _ _ ⟨s, k, q, r⟩ => ⟨s, k, hq _ _ _ q, r⟩) (h f a w hn hr)
theorem WpA.region {id : Nat} {l : List Oper} (h : RunL P n l.toArray l st nx fun s k => Q .normal s k) : WpA P n (.region id l.toArray false) st nx Q :=
 fun f a w hn hr => wp_region_lit (h f a w _ hn hr fun s k _ _ q r => ⟨s, k, q, r⟩)
theorem WpA.seq {x y : Code} (h : WpA P n x st nx (Then (fun s k => WpA P n y s k Q) Q)) : WpA P n (.seq x y) st nx Q :=
 fun f a w hn hr => wp_seq (Code.wp_mono (fun e a' w' ⟨s, k, q, r⟩ => by
  cases e with
  | normal => exact q f a' w' hn r
  | _ => exact ⟨s, k, q, r⟩) (h f a w hn hr))
theorem WpA.skip (h : Q .normal st nx) : WpA P n .skip st nx Q := fun _ _ _ _ hr => wp_skip ⟨st, nx, h, hr⟩
theorem WpA.ret (h : Q .ret st nx) : WpA P n .ret st nx Q := fun _ _ _ _ hr => wp_ret ⟨st, nx, h, hr⟩
theorem WpA.exit {id : Nat} (h : Q (.exit id) st nx) : WpA P n (.exit id) st nx Q := fun _ _ _ _ hr => wp_exit ⟨st, nx, h, hr⟩
theorem WpA.block {id : Nat} {c : Code} (h : WpA P n c st nx (InBlock id Q)) : WpA P n (.block id c) st nx Q :=
 fun f a w hn hr => wp_block (Code.wp_mono (fun e a' w' ⟨s, k, q, r⟩ => by
  cases e with
  | exit id' =>
   simp only [InBlock] at q
   simp only [Exit.inBlock]
   split <;> rename_i he
   ·rw [if_pos he] at q; exact ⟨s, k, q, r⟩
   ·rw [if_neg he] at q; exact ⟨s, k, q, r⟩
  | _ => exact ⟨s, k, q, r⟩) (h f a w hn hr))
theorem WpA.cond {c : Operand} {x y : Code} {b : Bool} (hc : Lit st c (.bool b)) (ht : b = true → WpA P n x st nx Q) (hf : b = false → WpA P n y st nx Q) : WpA P n (.cond c x y) st nx Q := by
 intro f a w hn hr
 obtain ⟨f', k, ρ, L, h⟩ := hr
 have e := Lit.eval h hc
 exact wp_cond_split e (fun hb => ht hb f a w hn ⟨f', k, ρ, L, h⟩) (fun hb => hf hb f a w hn ⟨f', k, ρ, L, h⟩)
theorem WpA.loop {ι : Type} {c : Code} (I : ι → (Nat → AV) → Prop) (μ : ι → Nat) (i0 : ι) (h0 : I i0 st)
  (round : ∀ i s k, I i s → WpA P n c s k (Then (fun s' _ => ∃ i', I i' s' ∧ μ i' < μ i) Q)) : WpA P n (.loop c) st nx Q := by
 intro f a w hn hr
 have ex : ∀ a w, (∃ i s k, I i s ∧ RepX f (fun i => i < k) s a w) → ∃ m, ∃ i s k, μ i = m ∧ I i s ∧ RepX f (fun i => i < k) s a w := fun a w ⟨i, s, k, h1, h2⟩ => ⟨μ i, i, s, k, rfl, h1, h2⟩
 have least : ∀ (p : Nat → Prop), (∃ m, p m) → ∃ m, p m ∧ ∀ k, p k → m ≤ k := by
  intro p ⟨m, hm⟩
  induction m using Nat.strongRecOn with
  | _ m ih =>
   by_cases h : ∃ k, k < m ∧ p k
   ·obtain ⟨k, hk, hp⟩ := h; exact ih k hk hp
   ·exact ⟨m, hm, fun k hk => Nat.le_of_not_lt fun hlt => h ⟨k, hlt, hk⟩⟩
 let μ' : Act → World → Nat := fun a w => open Classical in if h : ∃ m, ∃ i s k, μ i = m ∧ I i s ∧ RepX f (fun i => i < k) s a w then (least _ h).choose else 0
 refine wp_loop (fun a w => ∃ i s k, I i s ∧ RepX f (fun i => i < k) s a w) μ' ⟨i0, st, nx, h0, hr⟩ fun a w hI => ?_
 have h := ex a w hI
 have hmu : μ' a w = (least _ h).choose := by simp only [μ']; rw [dif_pos h]
 obtain ⟨i, s, k, e1, e2, e3⟩ := (least _ h).choose_spec.1
 refine Code.wp_mono (fun e a' w' ⟨s', k', q, r⟩ => ?_) (round i s k e2 f a w hn e3)
 cases e with
 | normal =>
  obtain ⟨i', h1, h2⟩ := q
  refine ⟨⟨i', s', k', h1, r⟩, ?_⟩
  have h' := ex a' w' ⟨i', s', k', h1, r⟩
  have hmu' : μ' a' w' = (least _ h').choose := by simp only [μ']; rw [dif_pos h']
  have := (least _ h').choose_spec.2 (μ i') ⟨i', s', k', rfl, h1, r⟩
  rw [hmu, hmu', ← e1]
  omega
 | _ => exact ⟨s', k', q, r⟩
def Has (st : Nat → AV) : List (Nat × AV) → Prop
 | [] => True
 | p :: l => st p.1 = p.2 ∧ Has st l
theorem puts_has : ∀ (l : List (Nat × AV)) (st : Nat → AV), Has st l → puts st l = st
 | [], _, _ => rfl
 | (d, v) :: l, st, h => by
  simp only [Has] at h
  simp only [puts]
  have : put st d v = st := by funext t; unfold put; split <;> simp_all
  rw [this]
  exact puts_has l st h.2
theorem WpA.loop_slots {ι : Type} {c : Code} (slots : ι → List (Nat × AV)) (C : ι → Prop) (μ : ι → Nat) (i0 : ι) (hC : C i0) (h0 : Has st (slots i0))
  (round : ∀ i s k, C i → WpA P n c (puts s (slots i)) k (Then (fun s' _ => ∃ i', C i' ∧ Has s' (slots i') ∧ μ i' < μ i) Q)) : WpA P n (.loop c) st nx Q :=
 WpA.loop (fun i s => C i ∧ Has s (slots i)) μ i0 ⟨hC, h0⟩ fun i s k ⟨h1, h2⟩ => by
  have := round i s k h1
  rw [puts_has _ _ h2] at this
  exact this.mono fun e s' k' q => by
   cases e with
   | normal => obtain ⟨i', q1, q2, q3⟩ := q; exact ⟨i', ⟨q1, q2⟩, q3⟩
   | _ => exact q
inductive Ress (P : Program) : (Nat → AV) → List ResultVar → List V → (Nat → AV) → Prop
 | nil {s : Nat → AV} : Ress P s [] [] s
 | one {s s' : Nat → AV} {t : Nat} {rd : List Nat} {d : D} {up : List (Nat × AV)} {rvs : List ResultVar} {vs : List V} : Give s (.tmp t) rd d up → Ress P (puts s up) rvs vs s' → Ress P s (.tmp t :: rvs) (.one d :: vs) s'
 | agg {s s' : Nat → AV} {t : Nat} {l : List AV} {ds : List D} {rvs : List ResultVar} {vs : List V} : s t = .agg l → AV.dats l = some ds → Ress P (put s t .dead) rvs vs s' → Ress P s (.tmp t :: rvs) (.agg ds :: vs) s'
 | cell {s s' : Nat → AV} {t id T sz : Nat} {ds : List D} {rvs : List ResultVar} {vs : List V} : StructTy P T sz → s t = .own id (.pt true ds) → ds.length = sz → Ress P (put s t .dead) rvs vs s' → Ress P s (.cell t T :: rvs) (.agg ds :: vs) s'
 | cell1 {s s' : Nat → AV} {t id T : Nat} {d : D} {rvs : List ResultVar} {vs : List V} : OneTy P T → s t = .own id (.pt true [d]) → Ress P (put s t .dead) rvs vs s' → Ress P s (.cell t T :: rvs) (.one d :: vs) s'
inductive Outs (st : Nat → AV) : Nat → List Arg → List D → Prop
 | nil {p} : Outs st p [] []
 | io {p id d d0 args ds} : st p = .own id d → Outs st (p + 1) args ds → Outs st p (.io d0 :: args) (d :: ds)
 | sh {p v args ds} : Outs st (p + 1) args ds → Outs st p (.sh v :: args) ds
 | mv {p v args ds} : Outs st (p + 1) args ds → Outs st p (.mv v :: args) ds
def Arg.av (p : Nat) : Arg → AV
 | .sh (.one (.pt false cs)) => .sptr cs 0
 | .sh (.one d) => .c d
 | .sh (.agg ds) => .agg (ds.map AV.c)
 | .mv (.one d) => .own p d
 | .mv (.agg ds) => .agg (ds.map AV.raw)
 | .io d => .own p d
def initSt (args : List Arg) (t : Nat) : AV := match args[t]? with
 | some x => x.av t
 | none => .dead
def heldOf : Nat → List Arg → List Nat
 | _, [] => []
 | p, .io _ :: args => p :: heldOf (p + 1) args
 | p, _ :: args => heldOf (p + 1) args
def V.solid : V → Bool
 | .one d => d.solid
 | .agg ds => D.solids ds
theorem V.rd_solid {F F' : Nat → Prop} {w : World} {v : V} {u : Value} {L0 : List Nat} (h : VR F w v u L0) (hs : v.solid = true) : VR F' w v u L0 := by
 cases v with
 | one d => obtain ⟨r, h⟩ := h; exact ⟨r, RD.solid d r u L0 h hs⟩
 | agg ds => obtain ⟨r, us, e, h⟩ := h; exact ⟨r, us, e, RDs.solid ds 0 r us L0 h hs⟩
theorem VRs.solid {F F' : Nat → Prop} {w : World} : ∀ {vs : List V} {us : List Value} {L0 : List Nat}, VRs F w vs us L0 → vs.all V.solid = true → VRs F' w vs us L0
 | [], _, _, h, _ => by simpa only [VRs] using h
 | v :: vs, us, L0, h, hs => by
  simp only [List.all_cons, Bool.and_eq_true] at hs
  simp only [VRs] at h ⊢
  obtain ⟨u, us', L1, L2, rfl, rfl, h1, h2⟩ := h
  exact ⟨u, us', L1, L2, rfl, rfl, V.rd_solid h1 hs.1, VRs.solid h2 hs.2⟩
theorem OutsR.solid {F F' : Nat → Prop} {w : World} : ∀ {args : List Arg} {us : List Value} {ds : List D} {L0 : List Nat}, OutsR F w args us ds L0 → D.solids ds = true → OutsR F' w args us ds L0
 | [], _, _, _, h, _ => by simpa only [OutsR] using h
 | .io _ :: args, us, ds, L0, h, hs => by
  simp only [OutsR] at h ⊢
  obtain ⟨u, us', d, ds', r, L1, L2, rfl, rfl, rfl, h1, h2⟩ := h
  simp only [D.solids, Bool.and_eq_true] at hs
  exact ⟨u, us', d, ds', r, L1, L2, rfl, rfl, rfl, RD.solid d r u L1 h1 hs.1, OutsR.solid h2 hs.2⟩
 | .sh _ :: args, us, ds, L0, h, hs => by
  simp only [OutsR] at h ⊢
  obtain ⟨u, us', rfl, h⟩ := h
  exact ⟨u, us', rfl, OutsR.solid h hs⟩
 | .mv _ :: args, us, ds, L0, h, hs => by
  simp only [OutsR] at h ⊢
  obtain ⟨u, us', rfl, h⟩ := h
  exact ⟨u, us', rfl, OutsR.solid h hs⟩
theorem OutsR.mono {F F' : Nat → Prop} {w : World} (hF : ∀ g, F g → F' g) : ∀ {args : List Arg} {us : List Value} {ds : List D} {L0 : List Nat}, OutsR F w args us ds L0 → OutsR F' w args us ds L0
 | [], _, _, _, h => by simpa only [OutsR] using h
 | .io _ :: args, us, ds, L0, h => by
  simp only [OutsR] at h ⊢
  obtain ⟨u, us', d, ds', r, L1, L2, rfl, rfl, rfl, h1, h2⟩ := h
  exact ⟨u, us', d, ds', r, L1, L2, rfl, rfl, rfl, RD.same hF (fun _ _ => rfl) d r u L1 h1 (fun _ _ => rfl), OutsR.mono hF h2⟩
 | .sh _ :: args, us, ds, L0, h => by
  simp only [OutsR] at h ⊢
  obtain ⟨u, us', rfl, h⟩ := h
  exact ⟨u, us', rfl, OutsR.mono hF h⟩
 | .mv _ :: args, us, ds, L0, h => by
  simp only [OutsR] at h ⊢
  obtain ⟨u, us', rfl, h⟩ := h
  exact ⟨u, us', rfl, OutsR.mono hF h⟩
def readRes (tmps : Array Value) : ResultVar → Sem Value
 | .tmp t => pure (tmps.getD t undef)
 | .cell a t => do loadVar t (← asAddr (tmps.getD a undef))
theorem RepM.ress {f : Fr} {X : Nat → Prop} {a : Act} {w : World} {ρ : Nat → Rho} : ∀ {s s' : Nat → AV} {L : Nat → List Nat} {M : List Nat} {rvs : List ResultVar} {vs : List V}, RepM f X s a w ρ L M → Ress P s rvs vs s' →
  ∃ L' M1 us, RepM f X s' a w ρ L' (M ++ M1) ∧ (rvs.mapM (readRes a.tmps)).run P w = .ok us w ∧ VRs f.F w vs us M1
 | s, _, L, M, _, _, h, .nil => ⟨L, [], [], by simpa using h, by simp, by simp [VRs]⟩
 | s, _, L, M, _, _, h, .one (t := t) h1 h2 => by
  obtain ⟨r, L1, M1, hm, hv⟩ := h.give h1
  obtain ⟨L2, M2, us, hm2, hr, hv2⟩ := RepM.ress hm h2
  refine ⟨L2, M1 ++ M2, a.eval (.tmp t) :: us, by rw [← List.append_assoc]; exact hm2, ?_, ?_⟩
  ·simp only [List.mapM_cons, Sem.run_bind, readRes, Sem.run_pure, Result.andThen_ok, hr]
   rfl
  ·simp only [VRs]; exact ⟨_, us, M1, M2, rfl, rfl, ⟨r, hv⟩, hv2⟩
 | s, _, L, M, _, _, h, .agg (t := t) (l := l) (ds := ds) h1 h3 h2 => by
  have ht := h.rep.slots t
  rw [h1] at ht
  simp only [SR] at ht
  obtain ⟨vs, e0, hv⟩ := ht
  obtain ⟨r, hv⟩ := hv.dats l ds 0 vs (L t) h3
  have hm1 := h.detach t .dead [] (L t) (by simp only [SR]) (by simp [AV.ids]) (fun g hg => by simpa using hg) List.nodup_nil (h.rep.nodup t) (by simp)
  obtain ⟨L2, M2, us, hm2, hr, hv2⟩ := RepM.ress hm1 h2
  refine ⟨L2, L t ++ M2, tmp a t :: us, by rw [← List.append_assoc]; exact hm2, ?_, ?_⟩
  ·simp only [List.mapM_cons, Sem.run_bind, readRes, Sem.run_pure, Result.andThen_ok, hr]
   rfl
  ·simp only [VRs]; exact ⟨_, us, L t, M2, rfl, rfl, ⟨r, vs, e0, hv⟩, hv2⟩
 | s, _, L, M, _, _, h, .cell (t := t) (T := T) (sz := sz) (ds := ds) hT h1 h3 h2 => by
  have ht := h.rep.slots t
  rw [h1] at ht
  simp only [SR, RD] at ht
  obtain ⟨_, g, us0, L1, ty, e0, eL, hb, hv⟩ := ht
  have hnd := h.rep.nodup t
  rw [eL, List.nodup_cons] at hnd
  have hm1 := h.detach t .dead [] L1 (by simp only [SR]) (by simp [AV.ids]) (fun g' hg => by rw [eL]; simp at hg; simp [hg]) List.nodup_nil hnd.2 (by simp)
  obtain ⟨L2, M2, us, hm2, hr, hv2⟩ := RepM.ress hm1 h2
  refine ⟨L2, L1 ++ M2, .agg us0.toArray :: us, by rw [← List.append_assoc]; exact hm2, ?_, ?_⟩
  ·have hl := run_load_struct (P := P) (T := T) w ⟨g, 0, none⟩ us0 (by rw [hv.length, h3]) (fun j u hu => by rw [addr_row, cell_of_row w g j us0.toArray ty (0, 0) hb]; simpa using hu)
   simp only [Instr.loadAt, Instr.sureAddr, Sem.run_bind, Sem.run_pure, Result.andThen_ok] at hl
   have e1 : a.tmps.getD t undef = _ := e0
   simp only [List.mapM_cons, Sem.run_bind, readRes, e1, asAddr, Sem.run_pure, Result.andThen_ok, hl, hr]
  ·simp only [VRs]; exact ⟨_, us, L1, M2, rfl, rfl, ⟨_, us0, rfl, hv⟩, hv2⟩
 | s, _, L, M, _, _, h, .cell1 (t := t) (T := T) (d := d) hT h1 h2 => by
  have ht := h.rep.slots t
  rw [h1] at ht
  simp only [SR, RD] at ht
  obtain ⟨_, g, us0, L1, ty, e0, eL, hb, hv⟩ := ht
  simp only [RDs] at hv
  obtain ⟨u, us1, A, B, rfl, rfl, hv, rfl, rfl⟩ := hv
  rw [List.append_nil] at eL
  have hnd := h.rep.nodup t
  rw [eL, List.nodup_cons] at hnd
  have hm1 := h.detach t .dead [] A (by simp only [SR]) (by simp [AV.ids]) (fun g' hg => by rw [eL]; simp at hg; simp [hg]) List.nodup_nil hnd.2 (by simp)
  obtain ⟨L2, M2, us, hm2, hr, hv2⟩ := RepM.ress hm1 h2
  refine ⟨L2, A ++ M2, u :: us, by rw [← List.append_assoc]; exact hm2, ?_, ?_⟩
  ·have hl := run_load_one (P := P) (T := T) w ⟨g, 0, none⟩ u (by rw [cell_of_row w g 0 _ ty (0, 0) hb]; simp)
   simp only [Instr.loadAt, Instr.sureAddr, Sem.run_bind, Sem.run_pure, Result.andThen_ok] at hl
   have e1 : a.tmps.getD t undef = _ := e0
   simp only [List.mapM_cons, Sem.run_bind, readRes, e1, asAddr, Sem.run_pure, Result.andThen_ok, hl, hr]
  ·simp only [VRs]; exact ⟨_, us, A, M2, rfl, rfl, ⟨_, hv⟩, hv2⟩
theorem run_results {fn : Func} {tmps : Array Value} {w : World} {us : List Value} (h : (fn.results.toList.mapM (readRes tmps)).run P w = .ok us w) : (results fn tmps).run P w = .ok (retVal us) w := by
 have e : results fn tmps = (do
   let vs ← fn.results.mapM (readRes tmps)
   pure (if h : vs.size = 1 then vs[0] else .tuple vs)) := by
  unfold results
  congr 2
 rw [e, Sem.run_bind, Array.mapM_eq_mapM_toList]
 simp only [Sem.run_map, h, Result.andThen_ok, Sem.run_pure]
 match us with
 | [] => rfl
 | [u] => rfl
 | u1 :: u2 :: us => simp [retVal]
theorem RepM.outs {f : Fr} {X : Nat → Prop} {a : Act} {w : World} {ρ : Nat → Rho} {L : Nat → List Nat} {M : List Nat} {s : Nat → AV} (h : RepM f X s a w ρ L M) : ∀ {args : List Arg} {p : Nat} {ds : List D} {us : List Value}, Outs s p args ds → us.length = args.length → (∀ j, p + j ∈ heldOf p args → us[j]? = some (tmp a (p + j))) →
  ∃ Lo, OutsR f.F w args us ds Lo ∧ Lo.Nodup ∧ ∀ g ∈ Lo, ∃ q, p ≤ q ∧ g ∈ L q
 | _, p, _, us, .nil, _, _ => ⟨[], by simp [OutsR], List.nodup_nil, by simp⟩
 | _, p, _, us, .io (id := id) (d := d) (args := args) h1 h2, hl, hh => by
  match us, hl with
  | u :: us, hl =>
   obtain ⟨Lo, e1, e2, e3⟩ := RepM.outs h (us := us) h2 (by simpa using hl) (fun j hj => by
    have := hh (j + 1) (by simp only [heldOf, List.mem_cons]; right; rw [show p + (j + 1) = p + 1 + j from by omega]; exact hj)
    simpa [show p + (j + 1) = p + 1 + j from by omega] using this)
   have hu := hh 0 (by simp [heldOf])
   simp only [List.getElem?_cons_zero, Option.some.injEq, Nat.add_zero] at hu
   have hv := h.rep.slots p
   rw [h1] at hv
   simp only [SR] at hv
   refine ⟨L p ++ Lo, ?_, ?_, ?_⟩
   ·simp only [OutsR]
    exact ⟨u, us, d, _, _, L p, Lo, rfl, rfl, rfl, by rw [hu]; exact hv, e1⟩
   ·rw [List.nodup_append]
    refine ⟨h.rep.nodup p, e2, fun g hg g' hg' e => ?_⟩
    subst e
    obtain ⟨q, hq, hgq⟩ := e3 g hg'
    exact h.rep.disj p q (by omega) g hg hgq
   ·intro g hg
    rw [List.mem_append] at hg
    rcases hg with hg | hg
    ·exact ⟨p, Nat.le_refl _, hg⟩
    ·obtain ⟨q, hq, hgq⟩ := e3 g hg; exact ⟨q, by omega, hgq⟩
 | _, p, _, us, .sh h2, hl, hh => by
  match us, hl with
  | u :: us, hl =>
   obtain ⟨Lo, e1, e2, e3⟩ := RepM.outs h (us := us) h2 (by simpa using hl) (fun j hj => by
    have := hh (j + 1) (by simp only [heldOf]; rw [show p + (j + 1) = p + 1 + j from by omega]; exact hj)
    simpa [show p + (j + 1) = p + 1 + j from by omega] using this)
   exact ⟨Lo, by simp only [OutsR]; exact ⟨u, us, rfl, e1⟩, e2, fun g hg => let ⟨q, hq, hgq⟩ := e3 g hg; ⟨q, by omega, hgq⟩⟩
 | _, p, _, us, .mv h2, hl, hh => by
  match us, hl with
  | u :: us, hl =>
   obtain ⟨Lo, e1, e2, e3⟩ := RepM.outs h (us := us) h2 (by simpa using hl) (fun j hj => by
    have := hh (j + 1) (by simp only [heldOf]; rw [show p + (j + 1) = p + 1 + j from by omega]; exact hj)
    simpa [show p + (j + 1) = p + 1 + j from by omega] using this)
   exact ⟨Lo, by simp only [OutsR]; exact ⟨u, us, rfl, e1⟩, e2, fun g hg => let ⟨q, hq, hgq⟩ := e3 g hg; ⟨q, by omega, hgq⟩⟩
theorem ArgsR.split {F : Nat → Prop} {w : World} : ∀ {args : List Arg} {us : List Value} {M : List Nat}, ArgsR F w args us M → ∃ Ls : List (List Nat), us.length = args.length ∧ Ls.length = args.length ∧ M = Ls.flatten ∧ ∀ (j : Nat) (x : Arg) (u : Value) (Lj : List Nat), args[j]? = some x → us[j]? = some u → Ls[j]? = some Lj → ArgR F w x u Lj
 | [], us, M, h => by
  simp only [ArgsR] at h
  obtain ⟨rfl, rfl⟩ := h
  exact ⟨[], rfl, rfl, rfl, by simp⟩
 | x :: args, us, M, h => by
  simp only [ArgsR] at h
  obtain ⟨u, us', L1, L2, rfl, rfl, h1, h2⟩ := h
  obtain ⟨Ls, e1, e2, rfl, e4⟩ := ArgsR.split h2
  refine ⟨L1 :: Ls, by simp [e1], by simp [e2], by simp, fun j x' u' Lj hx hu hL => ?_⟩
  cases j with
  | zero => simp only [List.getElem?_cons_zero, Option.some.injEq] at hx hu hL; subst hx hu hL; exact h1
  | succ j => simp only [List.getElem?_cons_succ] at hx hu hL; exact e4 j x' u' Lj hx hu hL
theorem ArgR.sr {F : Nat → Prop} {w : World} {x : Arg} {u : Value} {L0 : List Nat} (h : ArgR F w x u L0) (p : Nat) : ∃ r : Rho, ∀ ρ : Nat → Rho, ρ p = r → SR F w ρ (x.av p) u L0 := by
 cases x with
 | sh v =>
  obtain ⟨rfl, h⟩ := h
  cases v with
  | one d =>
   obtain ⟨r, h⟩ := h
   refine ⟨r, fun ρ _ => ?_⟩
   unfold Arg.av
   split
   ·rename_i cs heq
    obtain rfl : d = .pt false cs := by injection heq with e; injection e
    simp only [RD] at h
    obtain ⟨_, b, us, e1, e2, e3, e4⟩ := h
    simp only [SR]
    exact ⟨trivial, b, us, r, by rw [add_zero']; exact e1, e2, e3, e4⟩
   ·rename_i hne heq
    injection heq with e
    injection e with e
    subst e
    simp only [SR]; exact ⟨trivial, r, h⟩
   all_goals (rename_i heq; first | injection heq with e; injection e | injection heq)
  | agg ds => obtain ⟨r, us, e, h⟩ := h; exact ⟨r, fun ρ _ => by simp only [Arg.av, SR]; exact ⟨us, e, SRs_of_RDs ds 0 r us h⟩⟩
 | mv v =>
  cases v with
  | one d => obtain ⟨r, h⟩ := h; exact ⟨r, fun ρ e => by simp only [Arg.av, SR]; rw [e]; exact h⟩
  | agg ds => obtain ⟨r, us, e, h⟩ := h; exact ⟨r, fun ρ _ => by simp only [Arg.av, SR]; exact ⟨us, e, SRs_raws ds 0 r us L0 h⟩⟩
 | io d => obtain ⟨r, h⟩ := h; exact ⟨r, fun ρ e => by simp only [Arg.av, SR]; rw [e]; exact h⟩
theorem Arg.av_ids (x : Arg) (p : Nat) : ∀ i ∈ (x.av p).ids, i = p := by
 cases x with
 | sh v =>
  cases v with
  | one d => unfold Arg.av; split <;> simp_all [AV.ids, idss_map_c]
  | agg ds => simp [Arg.av, AV.ids, idss_map_c, -List.map_eq_nil_iff]
 | mv v => cases v <;> simp [Arg.av, AV.ids, idss_raws, -List.map_eq_nil_iff]
 | io d => simp [Arg.av, AV.ids]
theorem heldOf_lt : ∀ (args : List Arg) (p q : Nat), q ∈ heldOf p args → p ≤ q ∧ q < p + args.length
 | [], p, q, h => by simp [heldOf] at h
 | .io _ :: args, p, q, h => by
  simp only [heldOf, List.mem_cons] at h
  rcases h with rfl | h
  ·simp
  ·have := heldOf_lt args (p + 1) q h; simp; omega
 | .sh _ :: args, p, q, h => by
  simp only [heldOf] at h
  have := heldOf_lt args (p + 1) q h; simp; omega
 | .mv _ :: args, p, q, h => by
  simp only [heldOf] at h
  have := heldOf_lt args (p + 1) q h; simp; omega
theorem callG_of {own : Bool} {K : FuncId} {fn : Func} {c : Code} {args : List Arg} {rs : List V} {outs : List D} (hf : P.funcs[K]? = some fn) (hb : fn.body = some c) (hn : ∀ d, n d = true → d < fn.ntmps) (hheld : ∀ p ∈ heldOf 0 args, n p = false) (hnK : n.K = []) (hnR : n.R = []) (hnS : (n.S = [] ∧ own = true) ∨ n.S = mark0)
  (hs : own = true → rs.all V.solid = true ∧ D.solids outs = true)
  (h : WpA P n c (initSt args) args.length (fun e s _ => (e = .normal ∨ e = .ret) ∧ ∃ s', Ress P s fn.results.toList rs s' ∧ Outs s' 0 args outs)) : CallG own P K args rs outs := by
 intro w vs M F hF hargs hnd hM
 obtain ⟨Ls, e1, e2, eM, e4⟩ := hargs.split
 refine calls_of_wp hf hb ?_
 have htmp : ∀ t, tmp { tmps := vs.toArray ++ Array.replicate (fn.ntmps - vs.toArray.size) undef, defers := [] } t = vs.getD t undef := by
  intro t
  unfold tmp
  simp only [Array.getD_eq_getD_getElem?, List.getD_eq_getElem?_getD, Array.getElem?_append, List.size_toArray, List.getElem?_toArray, Array.getElem?_replicate]
  by_cases ht : t < vs.length
  ·simp [ht]
  ·simp only [ht, if_false]
   rw [List.getElem?_eq_none (by omega)]
   split <;> rfl
 have hSS : ∀ q ∈ n.S, ShRow F w q.1 1 (q.2.map (.int .i64)) := fun q hq => by
  rcases hnS with h | h
  ·rw [h.1] at hq; exact (List.not_mem_nil hq).elim
  ·rw [h, mark0, List.mem_singleton] at hq
   subst hq
   exact ⟨none, 0, 0, rfl, rfl, Nat.le_refl _, Nat.zero_le _, fun h => absurd rfl h⟩
 let f : Fr := { w0 := w, M := M, N := n, H := (heldOf 0 args).map fun q => (q, vs.getD q undef), F := F, hF := hF, hK := by rw [hnK]; exact fun _ h => (List.not_mem_nil h).elim, hR := by rw [hnR]; exact fun _ h => (List.not_mem_nil h).elim, hS := hSS }
 have hL : ∀ t, (Ls.getD t []).Nodup ∧ ∀ g ∈ Ls.getD t [], g ∈ M := by
  intro t
  rw [List.getD_eq_getElem?_getD]
  cases ht : Ls[t]? with
  | none => simp
  | some Lt =>
   have hm := List.mem_of_getElem? ht
   rw [eM] at hnd ⊢
   unfold List.Nodup at hnd
   rw [List.pairwise_flatten] at hnd
   exact ⟨hnd.1 Lt hm, fun g hg => List.mem_flatten.2 ⟨Lt, hm, hg⟩⟩
 have hch : ∀ t, ∃ r : Rho, ∀ ρ : Nat → Rho, ρ t = r → SR F w ρ (initSt args t) (vs.getD t undef) (Ls.getD t []) := by
  intro t
  unfold initSt
  cases ht : args[t]? with
  | none =>
   have hlt : args.length ≤ t := by simpa using ht
   refine ⟨fun _ => undef, fun ρ _ => ?_⟩
   rw [List.getD_eq_getElem?_getD (l := Ls), List.getElem?_eq_none (by omega)]
   simp only [SR, Option.getD_none]
  | some x =>
   have hlt : t < args.length := (List.getElem?_eq_some_iff.1 ht).1
   have hu : vs[t]? = some (vs[t]'(by omega)) := List.getElem?_eq_getElem _
   have hl : Ls[t]? = some (Ls[t]'(by omega)) := List.getElem?_eq_getElem _
   have := (e4 t x _ _ ht hu hl).sr t
   rw [List.getD_eq_getElem?_getD, List.getD_eq_getElem?_getD, hu, hl]
   exact this
 obtain ⟨ρ, hρ⟩ := Classical.axiomOfChoice hch
 have hrep : Rep f (fun i => i < args.length) (initSt args) { tmps := vs.toArray ++ Array.replicate (fn.ntmps - vs.toArray.size) undef, defers := [] } w := by
  refine ⟨ρ, fun t => Ls.getD t [], rfl, fun d hd => ?_, fun q hq => ?_, ⟨rfl, rfl, rfl, Nat.le_refl _, fun _ _ _ => rfl, Nat.le_refl _⟩, fun t => ?_, fun t => (hL t).1, fun t u htu g hg hgu => ?_, fun t g hg => ?_, fun t i hi => ?_, fun t g hg => .inl ((hL t).2 g hg), fun q hq => by cases hq⟩
  ·have := hn d hd
   simp
   omega
  ·obtain ⟨p, hp, rfl⟩ := List.mem_map.1 hq
   exact ⟨hheld p hp, htmp p⟩
  ·rw [htmp t]; exact hρ t ρ rfl
  ·unfold List.Nodup at hnd
   rw [eM, List.pairwise_flatten] at hnd
   rw [List.getD_eq_getElem?_getD] at hg hgu
   cases ht : Ls[t]? with
   | none => simp [ht] at hg
   | some Lt =>
    cases hu : Ls[u]? with
    | none => simp [hu] at hgu
    | some Lu =>
     simp only [ht, hu, Option.getD_some] at hg hgu
     obtain ⟨h1, h2⟩ := List.getElem?_eq_some_iff.1 ht
     obtain ⟨h3, h4⟩ := List.getElem?_eq_some_iff.1 hu
     rcases Nat.lt_or_ge t u with hlt | hge
     ·have := List.pairwise_iff_getElem.1 hnd.2 t u h1 h3 hlt
      rw [h2, h4] at this
      exact this g hg g hgu rfl
     ·have := List.pairwise_iff_getElem.1 hnd.2 u t h3 h1 (by omega)
      rw [h2, h4] at this
      exact this g hgu g hg rfl
  ·have hm := (hL t).2 g hg
   exact ⟨hM g hm, fun hf => (hF g hf).2 hm⟩
  ·unfold initSt at hi
   cases ht : args[t]? with
   | none => simp [ht, AV.ids] at hi
   | some x =>
    simp only [ht] at hi
    rw [Arg.av_ids x t i hi]
    exact (List.getElem?_eq_some_iff.1 ht).1
 refine Code.wp_mono (fun e a' w' hq => ?_) (h f _ w rfl (.of hrep))
 obtain ⟨s1, nx', ⟨he, s', hres, houts⟩, ⟨f', kf, ρ', L', hr⟩⟩ := hq
 have hmine : ∀ g, (g ∈ f'.M ∨ f'.w0.heap.size ≤ g) → g ∈ M ∨ w.heap.size ≤ g := fun g hg => by
  rcases hg with h1 | h1
  ·exact kf.M g h1
  ·exact .inr (Nat.le_trans kf.keep.size h1)
 have fin : bodyPost P fn (fun e w' => ∃ us Lr Lo, e = .returned (retVal us) ∧ Keep w M w' ∧ VRs (Res own F) w' rs us Lr ∧ OutsR (Res own F) w' args vs outs Lo ∧ (Lr ++ Lo).Nodup ∧ ∀ g ∈ Lr ++ Lo, g < w'.heap.size ∧ (g ∈ M ∨ w.heap.size ≤ g)) .ret a' w' := by
  obtain ⟨L2, M1, us, hm, hrun, hv⟩ := hr.toM.ress hres
  rw [List.nil_append] at hm
  obtain ⟨Lo, o1, o2, o3⟩ := hm.outs (us := vs) houts e1 (fun j hj => by
   rw [Nat.zero_add] at hj ⊢
   have h1 := (hr.hold (j, vs.getD j undef) (by rw [kf.H]; exact List.mem_map.2 ⟨j, hj, rfl⟩)).2
   have hlt := (heldOf_lt args 0 j hj).2
   rw [h1, List.getD_eq_getElem?_getD, List.getElem?_eq_getElem (by omega)]
   rfl)
  have hF' : own = false → f'.F = F := fun ho => by
   rcases hnS with h | h
   ·rw [h.2] at ho; cases ho
   ·have : f' = f := kf.still (by show n.S ≠ []; rw [h]; simp [mark0])
    rw [this]
  refine ⟨hr.defers, retVal us, run_results hrun, us, M1, Lo, rfl, kf.keep.trans hr.keep (fun g hg hlt => by
   rcases hmine g (.inl hg) with h1 | h1
   ·exact h1
   ·have : f.w0 = w := rfl
    rw [this] at hlt
    omega), ?_, ?_, ?_, ?_⟩
  ·cases hown : own with
   | true => exact hv.solid (hs hown).1
   | false => exact hv.same (fun g hg => ⟨rfl, by rw [← hF' hown]; exact hg⟩) (fun _ _ => rfl) (fun _ _ => rfl)
  ·cases hown : own with
   | true => exact o1.solid (hs hown).2
   | false =>
    have : Res false F = F := by funext g; simp [Res]
    rw [this, ← hF' hown]; exact o1
  ·rw [List.nodup_append]
   refine ⟨hm.nd, o2, fun g hg g' hg' e => ?_⟩
   subst e
   obtain ⟨q, _, hgq⟩ := o3 g hg'
   exact hm.disj q g hgq hg
  ·intro g hg
   rw [List.mem_append] at hg
   rcases hg with hg | hg
   ·exact ⟨(hm.bound g hg).1, hmine g (hm.mine g hg)⟩
   ·obtain ⟨q, _, hgq⟩ := o3 g hg
    exact ⟨(hm.rep.bound q g hgq).1, hmine g (hm.rep.mine q g hgq)⟩
 rcases he with rfl | rfl
 ·exact fin
 ·exact fin
end
end Go.Pv
