/- What the walks ask of this program's types. No condition. -/
import Derived.Test.YtpeioofkihpldaaDoorNPvO
import Derived.Test.YtpeioofkihpldaaDoorNPvS
import Derived.Laws.Strings
import Derived.Test.YtpeioofkihpldaaDoorProg
set_option linter.unusedVariables false
set_option linter.unusedSimpArgs false
namespace Go.Pv
open Go.RowKit
section
variable {P : Program} {n : NN} {nid nx : Nat} {st : Nat → AV} {f : Fr} {X : Nat → Prop} {a : Act} {w : World} {ρ : Nat → Rho} {L : Nat → List Nat} {Q : Exit → (Nat → AV) → Nat → Prop}
theorem RepO.grow (h : RepO f X st a w ρ L) (hs : f.N.S = []) (N : Nat → Prop) (hN : ∀ g, N g → g < w.heap.size ∧ (∀ t, g ∉ L t) ∧ (g ∈ f.M ∨ f.w0.heap.size ≤ g)) :
  ∃ f', After f f' ∧ (∀ g, f'.F g ↔ f.F g ∨ N g) ∧ RepO f' X st a w ρ L := by
 let M' : List Nat := open Classical in (List.range w.heap.size).filter fun g => decide (¬ (f.F g ∨ N g) ∧ (g ∈ f.M ∨ f.w0.heap.size ≤ g))
 have hM' : ∀ g, g ∈ M' ↔ g < w.heap.size ∧ ¬ (f.F g ∨ N g) ∧ (g ∈ f.M ∨ f.w0.heap.size ≤ g) := fun g => by simp only [M', List.mem_filter, List.mem_range, decide_eq_true_eq]
 let f' : Fr := { w0 := w, M := M', N := f.N, H := f.H, F := fun g => f.F g ∨ N g, hF := fun g hg => ⟨Or.elim hg (fun h1 => h.F_lt h1) (fun h1 => (hN g h1).1), fun hm => ((hM' g).1 hm).2.1 hg⟩, R := f.R, hK := f.hK, hR := h.tabR (fun _ h => .inl h) (fun _ _ => rfl), hS := by rw [hs]; exact fun _ h => (List.not_mem_nil h).elim }
 refine ⟨f', ⟨rfl, rfl, rfl, fun g hg => .inl hg, h.keep, fun g hg => ((hM' g).1 hg).2.2, fun g hg => ?_, fun hne => absurd hs hne⟩, fun g => Iff.rfl, ?_⟩
 ·rcases hg with hg | hg
  ·exact .inl hg
  ·exact .inr (hN g hg).2.2
 ·refine ⟨h.defers, h.size, h.hold, ⟨rfl, rfl, rfl, Nat.le_refl _, fun _ _ _ => rfl, fun _ => Nat.le_refl _⟩, fun t => SR.same (fun g hg => .inl hg) (fun _ _ => rfl) _ _ _ (h.slots t) (fun _ _ => rfl) (fun _ _ => rfl), h.nodup, h.disj, fun t g hg => ⟨(h.bound t g hg).1, fun hf => ?_⟩, h.ids, fun t g hg => .inl ((hM' g).2 ⟨(h.bound t g hg).1, fun hf => ?_, h.mine t g hg⟩), h.names⟩
  all_goals
   rcases hf with hf | hf
   ·exact (h.bound t g hg).2 hf
   ·exact (hN g hf).2.1 t hg
theorem RepO.drop (h : RepO f X st a w ρ L) (x : Nat) (av : AV) (Lx : List Nat) (hsr : SR f.F w ρ av (tmp a x) Lx) (hids : ∀ i ∈ av.ids, X i) (hsub : ∀ g ∈ Lx, g ∈ L x) (hnd : Lx.Nodup) : RepO f X (put st x av) a w ρ (fun t => if t = x then Lx else L t) := by
 refine h.step (fun t => t = x) [] X _ _ w ρ _ rfl rfl (fun _ _ => rfl) (Keep.refl w) (fun g hg => by simp at hg) (fun _ _ => rfl) (fun t ht => ⟨put_other _ _ _ _ ht, rfl, by simp [ht]⟩) (fun t ht => ?_) (fun t u ht hu htu => absurd (ht.trans hu.symm) htu) (fun _ h => h) (fun t ht i hi => ?_)
 ·subst ht
  rw [put_same, if_pos rfl]
  exact ⟨hsr, hnd, fun g hg => ⟨(h.bound t g (hsub g hg)).1, .inl ⟨t, rfl, hsub g hg⟩⟩⟩
 ·subst ht; rw [put_same] at hi; exact hids i hi
theorem WpA.freezeIn {c : Code} (x : Nat) {id : Nat} {ds : List D} (hS : n.S = []) (hx : st x = .own id (.pt true ds)) (h : WpA P n c (put st x (.own id (.pt true (D.erases ds)))) nx Q) : WpA P n c st nx Q := by
 refine WpA.of0 ?_
 intro f a w hn ⟨ρ, L, hr⟩
 subst hn
 have hsl := hr.slots x
 rw [hx] at hsl
 simp only [SR, RD] at hsl
 obtain ⟨e0, g, us, L1, ty, ev, eL, hb, hds⟩ := hsl
 have hnd := hr.nodup x
 rw [eL, List.nodup_cons] at hnd
 have hL1 : ∀ g', g' ∈ L1 → g' ∈ L x := fun g' hg => by rw [eL]; simp [hg]
 have hN : ∀ g', g' ∈ L1 → g' < w.heap.size ∧ (∀ t, g' ∉ (if t = x then [g] else L t)) ∧ (g' ∈ f.M ∨ f.w0.heap.size ≤ g') := fun g' hg => ⟨(hr.bound x g' (hL1 g' hg)).1, fun t ht => by
  split at ht
  ·simp only [List.mem_singleton] at ht
   exact hnd.1 (by rw [← ht]; exact hg)
  ·rename_i e
   exact hr.disj t x e g' ht (hL1 g' hg), hr.mine x g' (hL1 g' hg)⟩
 -- a frame in which the slot is dead but owns the variable's block
 let M' : List Nat := open Classical in (List.range w.heap.size).filter fun g' => decide (¬ (f.F g' ∨ g' ∈ L1) ∧ (g' ∈ f.M ∨ f.w0.heap.size ≤ g'))
 have hM' : ∀ g', g' ∈ M' ↔ g' < w.heap.size ∧ ¬ (f.F g' ∨ g' ∈ L1) ∧ (g' ∈ f.M ∨ f.w0.heap.size ≤ g') := fun g' => by simp only [M', List.mem_filter, List.mem_range, decide_eq_true_eq]
 let f2 : Fr := { w0 := w, M := M', N := f.N, H := f.H, F := fun g' => f.F g' ∨ g' ∈ L1, hF := fun g' hg => ⟨Or.elim hg (fun h1 => hr.F_lt h1) (fun h1 => (hN g' h1).1), fun hm => ((hM' g').1 hm).2.1 hg⟩, R := f.R, hK := f.hK, hR := hr.tabR (fun _ h => .inl h) (fun _ _ => rfl), hS := by rw [hS]; exact fun _ h => (List.not_mem_nil h).elim }
 have k2 : After f f2 := ⟨rfl, rfl, rfl, fun g' hg => .inl hg, hr.keep, fun g' hg => ((hM' g').1 hg).2.2, fun g' hg => by
  rcases hg with hg | hg
  ·exact .inl hg
  ·exact .inr (hN g' hg).2.2, fun hne => absurd hS hne⟩
 have hdsE := RDs.erase (F' := f2.F) (fun g' hg => .inl hg) ds 0 _ us L1 hds (fun g' hg => .inr hg)
 have hr4 : RepO f2 (fun i => i < nx) (put st x (.own id (.pt true (D.erases ds)))) a w ρ (fun t => if t = x then [g] else L t) := by
  refine ⟨hr.defers, hr.size, hr.hold, ⟨rfl, rfl, rfl, Nat.le_refl _, fun _ _ _ => rfl, fun _ => Nat.le_refl _⟩, fun t => ?_, fun t => ?_, fun t u htu g' hg hgu => ?_, fun t g' hg => ?_, fun t i hi => ?_, fun t g' hg => ?_, hr.names⟩
  ·by_cases e : t = x
   ·subst e
    rw [put_same, if_pos rfl]
    simp only [SR, RD]
    exact ⟨e0, g, us, [], ty, ev, rfl, hb, hdsE⟩
   ·rw [put_other _ _ _ _ e, if_neg e]
    exact SR.same (fun g' hg => .inl hg) (fun _ _ => rfl) _ _ _ (hr.slots t) (fun _ _ => rfl) (fun _ _ => rfl)
  ·skip
   split
   ·simp
   ·exact hr.nodup t
  ·have back : ∀ t, g' ∈ (if t = x then [g] else L t) → g' ∈ L t := fun t ht => by
    split at ht
    ·rename_i e
     simp only [List.mem_singleton] at ht
     rw [e, eL, ht]; simp
    ·exact ht
   exact hr.disj t u htu g' (back t hg) (back u hgu)
  ·have back : g' ∈ L t := by
    split at hg
    ·rename_i e
     simp only [List.mem_singleton] at hg
     rw [e, eL, hg]; simp
    ·exact hg
   refine ⟨(hr.bound t g' back).1, fun hf => ?_⟩
   rcases hf with hf | hf
   ·exact (hr.bound t g' back).2 hf
   ·exact (hN g' hf).2.1 t hg
  ·by_cases e : t = x
   ·subst e
    rw [put_same] at hi
    simp only [AV.ids, List.mem_singleton] at hi
    subst hi
    exact hr.ids t i (by rw [hx]; simp [AV.ids])
   ·rw [put_other _ _ _ _ e] at hi; exact hr.ids t i hi
  ·have back : g' ∈ L t := by
    split at hg
    ·rename_i e
     simp only [List.mem_singleton] at hg
     rw [e, eL, hg]; simp
    ·exact hg
   refine .inl ((hM' g').2 ⟨(hr.bound t g' back).1, fun hf => ?_, hr.mine t g' back⟩)
   rcases hf with hf | hf
   ·exact (hr.bound t g' back).2 hf
   ·exact (hN g' hf).2.1 t hg
 exact Code.wp_mono (fun _ _ _ ⟨s, m, q, r⟩ => ⟨s, m, q, r.up k2⟩) (h f2 a w rfl ⟨f2, .refl f2, ρ, _, hr4⟩)
end
def V.erase : V → V
 | .one d => .one d.erase
 | .agg ds => .agg (D.erases ds)
def V.avc : V → AV
 | .one d => .c d
 | .agg ds => .agg (ds.map AV.c)
def frzAV : List V → AV
 | [] => .dead
 | [v] => v.avc
 | vs => .tup (vs.map V.avc)
def CallF (P : Program) (K : FuncId) (args : List Arg) (rs : List V) : Prop :=
 ∀ (w : World) (vs : List Value) (M : List Nat) (F : Nat → Prop), (∀ g, F g → g < w.heap.size ∧ g ∉ M) → ArgsR F w args vs M → M.Nodup → (∀ g ∈ M, g < w.heap.size) →
  Calls P K vs.toArray w fun e w' => ∃ us, e = .returned (retVal us) ∧ Keep w M w' ∧ VRs (fun g => g < w'.heap.size ∧ (F g ∨ g ∈ M ∨ w.heap.size ≤ g)) w' rs us []
def DoneF (P : Program) (fn : Func) (rs : List V) (e : Exit) (s : Nat → AV) (_ : Nat) : Prop :=
 (e = .normal ∨ e = .ret) ∧ ∃ s' rs', Ress P s fn.results.toList rs' s' ∧ rs'.map V.erase = rs
section
variable {P : Program} {n : NN} {nid nx : Nat} {st : Nat → AV} {f : Fr} {X : Nat → Prop} {a : Act} {w : World} {ρ : Nat → Rho} {L : Nat → List Nat} {M : List Nat}
theorem DoneF.ret {fn : Func} {rs rs' : List V} {s s' : Nat → AV} {k : Nat} (hr : Ress P s fn.results.toList rs' s') (h : rs'.map V.erase = rs) : DoneF P fn rs .ret s k := ⟨.inr rfl, s', rs', hr, h⟩
theorem DoneF.normal {fn : Func} {rs rs' : List V} {s s' : Nat → AV} {k : Nat} (hr : Ress P s fn.results.toList rs' s') (h : rs'.map V.erase = rs) : DoneF P fn rs .normal s k := ⟨.inl rfl, s', rs', hr, h⟩
theorem VRs.erase {F F' : Nat → Prop} {w : World} (hF : ∀ g, F g → F' g) : ∀ {vs : List V} {us : List Value} {L0 : List Nat}, VRs F w vs us L0 → (∀ g ∈ L0, F' g) → VRs F' w (vs.map V.erase) us []
 | [], _, _, h, _ => by simp only [VRs, List.map_nil] at h ⊢; exact ⟨h.1, trivial⟩
 | v :: vs, us, L0, h, hL => by
  simp only [VRs, List.map_cons] at h ⊢
  obtain ⟨u, us', L1, L2, rfl, rfl, h1, h2⟩ := h
  refine ⟨u, us', [], [], rfl, rfl, ?_, VRs.erase hF h2 (fun g hg => hL g (by simp [hg]))⟩
  cases v with
  | one d => obtain ⟨r, h⟩ := h1; exact ⟨r, RD.erase hF d r u L1 h (fun g hg => hL g (by simp [hg]))⟩
  | agg ds => obtain ⟨r, vs, e, h⟩ := h1; exact ⟨r, vs, e, RDs.erase hF ds 0 r vs L1 h (fun g hg => hL g (by simp [hg]))⟩
theorem SRs_cs {F : Nat → Prop} : ∀ (ds : List D) (k : Nat) (r : Rho) (us : List Value), RDs F w ds k r us [] → SRs F w ρ (ds.map AV.c) us []
 | [], _, _, _, h => by simpa only [RDs, SRs, List.map_nil] using h
 | d :: ds, k, r, us, h => by
  simp only [RDs] at h
  obtain ⟨u, us', L1, L2, rfl, e, h1, h2⟩ := h
  obtain ⟨rfl, rfl⟩ := List.append_eq_nil_iff.1 e.symm
  simp only [List.map_cons, SRs, SR]
  exact ⟨u, us', [], [], rfl, rfl, ⟨rfl, _, h1⟩, SRs_cs ds (k + 1) r us' h2⟩
theorem SR_avc {F : Nat → Prop} {v : V} {u : Value} (h : VR F w v u []) : SR F w ρ v.avc u [] := by
 cases v with
 | one d => obtain ⟨r, h⟩ := h; simp only [V.avc, SR]; exact ⟨trivial, r, h⟩
 | agg ds => obtain ⟨r, us, e, h⟩ := h; simp only [V.avc, SR]; exact ⟨us, e, SRs_cs ds 0 r us h⟩
theorem SRs_avcs {F : Nat → Prop} : ∀ (vs : List V) (us : List Value), VRs F w vs us [] → SRs F w ρ (vs.map V.avc) us []
 | [], _, h => by simpa only [VRs, SRs, List.map_nil] using h
 | v :: vs, us, h => by
  simp only [VRs] at h
  obtain ⟨u, us', L1, L2, rfl, e, h1, h2⟩ := h
  obtain ⟨rfl, rfl⟩ := List.append_eq_nil_iff.1 e.symm
  simp only [List.map_cons, SRs]
  exact ⟨u, us', [], [], rfl, rfl, SR_avc h1, SRs_avcs vs us' h2⟩
theorem SR_frz {F : Nat → Prop} {vs : List V} {us : List Value} (h : VRs F w vs us []) : SR F w ρ (frzAV vs) (retVal us) [] := by
 have hl := h.length
 match vs, us, h, hl with
 | [], [], h, _ => simp only [frzAV, SR]
 | [v], [u], h, _ =>
  simp only [VRs] at h
  obtain ⟨u', us', L1, L2, e1, e, h1, _⟩ := h
  obtain ⟨rfl, rfl⟩ := List.append_eq_nil_iff.1 e.symm
  simp only [List.cons.injEq] at e1
  rw [← e1.1] at h1
  exact SR_avc h1
 | v1 :: v2 :: vs, u1 :: u2 :: us, h, _ =>
  simp only [frzAV, SR, retVal]
  exact ⟨_, rfl, SRs_avcs _ _ h⟩
theorem idss_cs (ds : List D) : AV.idss (ds.map AV.c) = [] := by
 induction ds with
 | nil => rfl
 | cons d ds ih => simp [AV.idss, AV.ids, ih]
theorem idss_avcs (vs : List V) : AV.idss (vs.map V.avc) = [] := by
 induction vs with
 | nil => rfl
 | cons v vs ih => cases v <;> simp [AV.idss, AV.ids, V.avc, ih, idss_cs]
theorem frz_ids (vs : List V) : (frzAV vs).ids = [] := by
 match vs with
 | [] => rfl
 | [v] => cases v <;> simp [frzAV, V.avc, AV.ids, idss_cs]
 | v1 :: v2 :: vs => simp only [frzAV, AV.ids, idss_avcs]
theorem step_callF {d : Nat} {K : FuncId} {xs : Array Operand} {ts : Array TypeId} {args : List Arg} {rs : List V} {rd rd2 : List Nat} {up : List (Nat × AV)} {ty pos aft g} [FnOk P K] (hc : CallF P K args rs) (hm : Moves st xs.toList args rd up) (hr : ReadsF (puts st up) xs.toList args rd2) (hS : n.S = []) (hd : n d = true) :
  StepX P n ⟨some d, .call ⟨.value (.func K), xs, ts⟩, ty, pos, aft, g⟩ nid st (rd ++ rd2) (up ++ [(d, frzAV rs)]) := by
 intro X st' hs hX f a w hn hrep Kk Q hK
 obtain ⟨f', k, ρ, L, h⟩ := hrep
 have hn' : f'.N = n := k.N.trans hn
 obtain ⟨L', M1, h1, h2⟩ := h.toM.moves (hm.agree (st' := st') fun s hs' => hs s (List.mem_append_left _ hs'))
 rw [puts_append] at hK
 rw [List.nil_append] at h1
 have h3 := args_ofF h1 h2 (hr.agree (st' := puts st' up) fun s hs' => puts_agree _ _ (hs s (List.mem_append_right _ hs')))
 refine wp_of_enter (run_call a.eval rfl w) ?_
 have e : xs.map a.eval = (xs.toList.map a.eval).toArray := by apply Array.ext'; rw [Array.toList_map]
 rw [e]
 refine (hc w _ M1 f'.F (fun g hg => ⟨h1.rep.F_lt hg, fun hm => (h1.bound g hm).2 hg⟩) h3 h1.nd (fun g hg => (h1.bound g hg).1)).mono ?_
 rintro e w' ⟨us, rfl, hk, hv⟩
 refine ⟨_, rfl, ?_⟩
 have hdd : f'.N d = true := by rw [hn']; exact hd
 have hr1 : RepO f' X (put (puts st' up) d .dead) (a.put (some d) (retVal us)) w' ρ (fun t => if t = d then [] else L' t) := by
  refine h1.step (fun t => t = d) M1 X _ _ w' ρ _ (put_defers _ _ _) (put_size _ _ _) (hold_put _ hdd) hk (fun g hg => .inr hg) (fun _ _ => rfl) (fun t ht => ⟨put_other _ _ _ _ ht, tmp_put_other _ _ _ _ ht, by simp [ht]⟩) (fun t ht => ?_) (fun t u ht hu hne => absurd (ht.trans hu.symm) hne) (fun _ h => h) (fun t ht i hi => ?_)
  ·subst ht
   rw [put_same, if_pos rfl]
   exact ⟨by simp only [SR], List.nodup_nil, fun g hg => by simp at hg⟩
  ·subst ht
   rw [put_same] at hi
   simp [AV.ids] at hi
 obtain ⟨f2, k2, hF2, hr2⟩ := hr1.grow (by rw [hn']; exact hS) (fun g => g < w'.heap.size ∧ (g ∈ M1 ∨ w.heap.size ≤ g)) (fun g hg => ⟨hg.1, fun t ht => by
  split at ht
  ·simp at ht
  ·rcases hg.2 with h | h
   ·exact h1.disj t g ht h
   ·have := (h1.rep.bound t g ht).1; omega, by
  rcases hg.2 with h | h
  ·exact h1.mine g h
  ·exact .inr (Nat.le_trans h1.rep.keep.size h)⟩)
 have hv2 : VRs f2.F w' rs us [] := hv.same (fun g hg => (hF2 g).2 (by
  rcases hg.2 with h | h | h
  ·exact .inl h
  ·exact .inr ⟨hg.1, .inl h⟩
  ·exact .inr ⟨hg.1, .inr h⟩)) (fun _ _ => rfl) (fun _ _ => rfl)
 have hr3 := hr2.drop d (frzAV rs) [] (by rw [tmp_put_same _ _ _ (h1.rep.size _ hdd)]; exact SR_frz hv2) (by rw [frz_ids]; simp) (by simp) List.nodup_nil
 have e1 : put (put (puts st' up) d .dead) d (frzAV rs) = put (puts st' up) d (frzAV rs) := by
  funext t; unfold put; split <;> rfl
 rw [e1] at hr3
 exact hK _ _ ⟨f2, k.trans k2, ρ, _, hr3.weaken (fun i hi => .inl hi)⟩
theorem callF_of {K : FuncId} {fn : Func} {c : Code} {args : List Arg} {rs : List V} (m : Nat) (hf : P.funcs[K]? = some fn) (hb : fn.body = some c) (hm : fn.ntmps = m) (hh : heldOf 0 args = [])
  (h : WpA P ⟨fun d => decide (d < m), [], [], []⟩ c (initSt args) args.length (DoneF P fn rs)) : CallF P K args rs := by
 intro w vs M F hF hargs hnd hM
 have hn : ∀ d, decide (d < m) = true → d < fn.ntmps := fun d hd => by rw [hm]; exact of_decide_eq_true hd
 obtain ⟨Ls, e1, e2, eM, e4⟩ := hargs.split
 refine calls_of_wp hf hb ?_
 have htmp : ∀ t, tmp { tmps := vs.toArray ++ Array.replicate (fn.ntmps - vs.toArray.size) undef, defers := [] } t = vs.getD t undef := by
  intro t
  unfold tmp
  simp only [Array.getD_eq_getD_getElem?, List.getD_eq_getElem?_getD, Array.getElem?_append, List.size_toArray, List.getElem?_toArray, Array.getElem?_replicate]
  by_cases ht : t < vs.length
  ·simp [ht]
  ·simp only [ht, if_false]
   rw [List.getElem?_eq_none (by omega)]
   split <;> rfl
 let f : Fr := { w0 := w, M := M, N := ⟨fun d => decide (d < m), [], [], []⟩, H := [], F := F, hF := hF, hK := fun _ h => (List.not_mem_nil h).elim, hR := fun _ h => (List.not_mem_nil h).elim, hS := fun _ h => (List.not_mem_nil h).elim }
 have hL : ∀ t, (Ls.getD t []).Nodup ∧ ∀ g ∈ Ls.getD t [], g ∈ M := by
  intro t
  rw [List.getD_eq_getElem?_getD]
  cases ht : Ls[t]? with
  | none => simp
  | some Lt =>
   have hm := List.mem_of_getElem? ht
   rw [eM] at hnd ⊢
   unfold List.Nodup at hnd
   rw [List.pairwise_flatten] at hnd
   exact ⟨hnd.1 Lt hm, fun g hg => List.mem_flatten.2 ⟨Lt, hm, hg⟩⟩
 have hch : ∀ t, ∃ r : Rho, ∀ ρ : Nat → Rho, ρ t = r → SR F w ρ (initSt args t) (vs.getD t undef) (Ls.getD t []) := by
  intro t
  unfold initSt
  cases ht : args[t]? with
  | none =>
   have hlt : args.length ≤ t := by simpa using ht
   refine ⟨fun _ => undef, fun ρ _ => ?_⟩
   rw [List.getD_eq_getElem?_getD (l := Ls), List.getElem?_eq_none (by omega)]
   simp only [SR, Option.getD_none]
  | some x =>
   have hlt : t < args.length := (List.getElem?_eq_some_iff.1 ht).1
   have hu : vs[t]? = some (vs[t]'(by omega)) := List.getElem?_eq_getElem _
   have hl : Ls[t]? = some (Ls[t]'(by omega)) := List.getElem?_eq_getElem _
   have := (e4 t x _ _ ht hu hl).sr t
   rw [List.getD_eq_getElem?_getD, List.getD_eq_getElem?_getD, hu, hl]
   exact this
 obtain ⟨ρ, hρ⟩ := Classical.axiomOfChoice hch
 have hrep : Rep f (fun i => i < args.length) (initSt args) { tmps := vs.toArray ++ Array.replicate (fn.ntmps - vs.toArray.size) undef, defers := [] } w := by
  refine ⟨ρ, fun t => Ls.getD t [], rfl, fun d hd => ?_, fun q hq => (by cases hq), ⟨rfl, rfl, rfl, Nat.le_refl _, fun _ _ _ => rfl, fun _ => Nat.le_refl _⟩, fun t => ?_, fun t => (hL t).1, fun t u htu g hg hgu => ?_, fun t g hg => ?_, fun t i hi => ?_, fun t g hg => .inl ((hL t).2 g hg), fun q hq => by cases hq⟩
  ·have := hn d hd
   simp
   omega
  ·rw [htmp t]; exact hρ t ρ rfl
  ·unfold List.Nodup at hnd
   rw [eM, List.pairwise_flatten] at hnd
   rw [List.getD_eq_getElem?_getD] at hg hgu
   cases ht : Ls[t]? with
   | none => simp [ht] at hg
   | some Lt =>
    cases hu : Ls[u]? with
    | none => simp [hu] at hgu
    | some Lu =>
     simp only [ht, hu, Option.getD_some] at hg hgu
     obtain ⟨h1, h2⟩ := List.getElem?_eq_some_iff.1 ht
     obtain ⟨h3, h4⟩ := List.getElem?_eq_some_iff.1 hu
     rcases Nat.lt_or_ge t u with hlt | hge
     ·have := List.pairwise_iff_getElem.1 hnd.2 t u h1 h3 hlt
      rw [h2, h4] at this
      exact this g hg g hgu rfl
     ·have := List.pairwise_iff_getElem.1 hnd.2 u t h3 h1 (by omega)
      rw [h2, h4] at this
      exact this g hgu g hg rfl
  ·have hm := (hL t).2 g hg
   exact ⟨hM g hm, fun hf => (hF g hf).2 hm⟩
  ·unfold initSt at hi
   cases ht : args[t]? with
   | none => simp [ht, AV.ids] at hi
   | some x =>
    simp only [ht] at hi
    rw [Arg.av_ids x t i hi]
    exact (List.getElem?_eq_some_iff.1 ht).1
 refine Code.wp_mono (fun e a' w' hq => ?_) (h f _ w rfl (.of hrep))
 obtain ⟨s1, nx', ⟨he, s', rs', hres, hrs⟩, ⟨f', kf, ρ', L', hr⟩⟩ := hq
 have hmine : ∀ g, (g ∈ f'.M ∨ f'.w0.heap.size ≤ g) → g ∈ M ∨ w.heap.size ≤ g := fun g hg => by
  rcases hg with h1 | h1
  ·exact kf.M g h1
  ·exact .inr (Nat.le_trans kf.keep.size h1)
 have fin : bodyPost P fn (fun e w' => ∃ us, e = .returned (retVal us) ∧ Keep w M w' ∧ VRs (fun g => g < w'.heap.size ∧ (F g ∨ g ∈ M ∨ w.heap.size ≤ g)) w' rs us []) .ret a' w' := by
  obtain ⟨L2, M1, us, hm, hrun, hv⟩ := hr.toM.ress hres
  rw [List.nil_append] at hm
  refine ⟨hr.defers, retVal us, run_results hrun, us, rfl, kf.keep.trans hr.keep (fun g hg hlt => by
   rcases hmine g (.inl hg) with h1 | h1
   ·exact h1
   ·have : f.w0 = w := rfl
    rw [this] at hlt
    omega), ?_⟩
  rw [← hrs]
  exact hv.erase (fun g hg => ⟨hr.F_lt hg, kf.new g hg⟩) (fun g hg => ⟨(hm.bound g hg).1, .inr (hmine g (hm.mine g hg))⟩)
 rcases he with rfl | rfl
 ·exact fin
 ·exact fin
end
end Go.Pv
namespace Go.Pv
open Go.RowKit
abbrev strV (b : List UInt8) : Value := .string ⟨b.toArray⟩
def byI (b : List UInt8) (i : Nat) : Int := ((b.getD i 0).toNat : Int)
class StrTy (P : Program) (T : TypeId) : Prop where
 out : P.underlying T = some .string
theorem str_at (b : List UInt8) (m : Nat) (h : m < b.length) : (⟨b.toArray⟩ : ByteArray)[m]? = some (b.getD m 0) := by
 have hs : (⟨b.toArray⟩ : ByteArray).size = b.length := by simp [ByteArray.size]
 rw [getElem?_pos (⟨b.toArray⟩ : ByteArray) m (by omega)]
 simp [List.getD, h, ByteArray.getElem_eq_getElem_data]
theorem str_cut (b : List UInt8) (m k : Nat) : (⟨b.toArray⟩ : ByteArray).extract m k = ⟨((b.take k).drop m).toArray⟩ := by
 ext1; simp [List.drop_take]
theorem str_list (b : List UInt8) : (⟨b.toArray⟩ : ByteArray).toList = b := by rw [ByteArray.toList_eq]
theorem str_size (b : List UInt8) : (⟨b.toArray⟩ : ByteArray).size = b.length := by simp [ByteArray.size]
section
variable {P : Program} {n : NN} {nid : Nat} {st : Nat → AV} {d : Nat} {T T' : TypeId} {x y z : Operand} {b c : List UInt8} {ty : TypeId} {pos : String} {aft : Array Edge} {g : Option (Nat × Bool)}
theorem step_str_len [hT : StrTy P T] (hx : Lit st x (strV b)) (hd : n d = true) : Step P n ⟨some d, .call ⟨.builtin .len, #[x], #[T]⟩, ty, pos, aft, g⟩ nid st (rdOf x) [(d, .c (.lit (.int .i64 b.length)))] := by
 have := step_pure (P := P) (n := n) (nid := nid) (st := st) (o := ⟨some d, .call ⟨.builtin .len, #[x], #[T]⟩, ty, pos, aft, g⟩) (d := d) (u := .int .i64 b.length) [(x, strV b)] rfl hd rfl (by simpa using hx) (fun ev w hev => by
  have e1 := hev (x, strV b) (by simp)
  simp only at e1
  simp [execOp, resolve, invoke, builtin, e1, Builtin.len_, run_underlying hT.out, goInt, str_size])
 simpa using this
theorem step_str_index [hT : StrTy P T] {k : IntKind} {i : Int} {m : Nat} (hx : Lit st x (strV b)) (hy : Lit st y (.int k i)) (he : i = (m : Int)) (hm : m < b.length) (hd : n d = true) : Step P n ⟨some d, .index T x y, ty, pos, aft, g⟩ nid st (rdOf x ++ rdOf y) [(d, .c (.lit (.int .u8 (byI b m))))] := by
 subst he
 have := step_pure (P := P) (n := n) (nid := nid) (st := st) (o := ⟨some d, .index T x y, ty, pos, aft, g⟩) (d := d) (u := .int .u8 (byI b m)) [(x, strV b), (y, .int k (m : Int))] rfl hd rfl (by simpa using ⟨hx, hy⟩) (fun ev w hev => by
  have e1 := hev (x, strV b) (by simp)
  have e2 := hev (y, .int k (m : Int)) (by simp)
  simp only at e1 e2
  simp [execOp, e1, e2, Instr.index, asIntOf, run_underlying hT.out, str_at b m hm, byI])
 simpa using this
theorem run_slice_str [hT : StrTy P T] (w : World) (l h : Nat) (hl : l ≤ h) (hh : h ≤ b.length) (k k' : IntKind) :
  (Instr.sliceAt T (strV b) (some (.int k (l : Int))) (some (.int k' (h : Int))) none).run P w = .ok (strV ((b.take h).drop l)) w := by
 simp [Instr.sliceAt, run_underlying hT.out, Instr.slice, Instr.sliceBounds, Instr.sliceBound, asIntOf, str_size, str_cut, hl, hh]
theorem run_slice_str1 [hT : StrTy P T] (w : World) (l : Nat) (hl : l ≤ b.length) (k : IntKind) :
  (Instr.sliceAt T (strV b) (some (.int k (l : Int))) none none).run P w = .ok (strV (b.drop l)) w := by
 simp [Instr.sliceAt, run_underlying hT.out, Instr.slice, Instr.sliceBounds, Instr.sliceBound, asIntOf, str_size, str_cut, hl]
theorem run_slice_str2 [hT : StrTy P T] (w : World) (h : Nat) (hh : h ≤ b.length) (k' : IntKind) :
  (Instr.sliceAt T (strV b) none (some (.int k' (h : Int))) none).run P w = .ok (strV (b.take h)) w := by
 simp [Instr.sliceAt, run_underlying hT.out, Instr.slice, Instr.sliceBounds, Instr.sliceBound, asIntOf, str_size, str_cut, hh]
theorem step_str_from [hT : StrTy P T] {k : IntKind} {i : Int} {m : Nat} (hx : Lit st x (strV b)) (hy : Lit st y (.int k i)) (he : i = (m : Int)) (hm : m ≤ b.length) (hd : n d = true) : Step P n ⟨some d, .slice T x (some y) none none, ty, pos, aft, g⟩ nid st (rdOf x ++ rdOf y) [(d, .c (.lit (strV (b.drop m))))] := by
 subst he
 have := step_pure (P := P) (n := n) (nid := nid) (st := st) (o := ⟨some d, .slice T x (some y) none none, ty, pos, aft, g⟩) (d := d) (u := strV (b.drop m)) [(x, strV b), (y, .int k (m : Int))] rfl hd rfl (by simpa using ⟨hx, hy⟩) (fun ev w hev => by
  have e1 := hev (x, strV b) (by simp)
  have e2 := hev (y, .int k (m : Int)) (by simp)
  simp only at e1 e2
  simp only [execOp, e1, Option.map_some, Option.map_none, e2, Sem.run_bind, run_slice_str1 (P := P) (T := T) w m hm k]
  rfl)
 simpa using this
theorem step_str_to [hT : StrTy P T] {k : IntKind} {i : Int} {m : Nat} (hx : Lit st x (strV b)) (hy : Lit st y (.int k i)) (he : i = (m : Int)) (hm : m ≤ b.length) (hd : n d = true) : Step P n ⟨some d, .slice T x none (some y) none, ty, pos, aft, g⟩ nid st (rdOf x ++ rdOf y) [(d, .c (.lit (strV (b.take m))))] := by
 subst he
 have := step_pure (P := P) (n := n) (nid := nid) (st := st) (o := ⟨some d, .slice T x none (some y) none, ty, pos, aft, g⟩) (d := d) (u := strV (b.take m)) [(x, strV b), (y, .int k (m : Int))] rfl hd rfl (by simpa using ⟨hx, hy⟩) (fun ev w hev => by
  have e1 := hev (x, strV b) (by simp)
  have e2 := hev (y, .int k (m : Int)) (by simp)
  simp only at e1 e2
  simp only [execOp, e1, Option.map_some, Option.map_none, e2, Sem.run_bind, run_slice_str2 (P := P) (T := T) w m hm k]
  rfl)
 simpa using this
theorem step_str_cut [hT : StrTy P T] {k k' : IntKind} {i i' : Int} {l m : Nat} (hx : Lit st x (strV b)) (hy : Lit st y (.int k i)) (hz : Lit st z (.int k' i')) (he : i = (l : Int)) (he' : i' = (m : Int)) (hl : l ≤ m) (hm : m ≤ b.length) (hd : n d = true) : Step P n ⟨some d, .slice T x (some y) (some z) none, ty, pos, aft, g⟩ nid st (rdOf x ++ (rdOf y ++ rdOf z)) [(d, .c (.lit (strV ((b.take m).drop l))))] := by
 subst he he'
 have := step_pure (P := P) (n := n) (nid := nid) (st := st) (o := ⟨some d, .slice T x (some y) (some z) none, ty, pos, aft, g⟩) (d := d) (u := strV ((b.take m).drop l)) [(x, strV b), (y, .int k (l : Int)), (z, .int k' (m : Int))] rfl hd rfl (by simpa using ⟨hx, hy, hz⟩) (fun ev w hev => by
  have e1 := hev (x, strV b) (by simp)
  have e2 := hev (y, .int k (l : Int)) (by simp)
  have e3 := hev (z, .int k' (m : Int)) (by simp)
  simp only at e1 e2 e3
  simp only [execOp, e1, Option.map_some, Option.map_none, e2, e3, Sem.run_bind, run_slice_str (P := P) (T := T) w l m hl hm k k']
  rfl)
 simpa using this
theorem eqGuard_str (op : BinOp) (w : World) (a b : List UInt8) : (eqGuard op T x y (strV a) (strV b)).run P w = .ok () w := by
 unfold eqGuard
 split <;> rfl
theorem step_str_eql (hx : Lit st x (strV b)) (hy : Lit st y (strV c)) (hd : n d = true) : Step P n ⟨some d, .binOp .eql T x y T', ty, pos, aft, g⟩ nid st (rdOf x ++ rdOf y) [(d, .c (.lit (.bool (decide (b = c)))))] := by
 have := step_pure (P := P) (n := n) (nid := nid) (st := st) (o := ⟨some d, .binOp .eql T x y T', ty, pos, aft, g⟩) (d := d) (u := .bool (decide (b = c))) [(x, strV b), (y, strV c)] rfl hd rfl (by simpa using ⟨hx, hy⟩) (fun ev w hev => by
  have e1 := hev (x, strV b) (by simp)
  have e2 := hev (y, strV c) (by simp)
  simp only at e1 e2
  simp [execOp, e1, e2, eqGuard_str, binOp, Op.stringOp, str_list]
  by_cases h : b = c <;> simp [h])
 simpa using this
theorem step_str_neq (hx : Lit st x (strV b)) (hy : Lit st y (strV c)) (hd : n d = true) : Step P n ⟨some d, .binOp .neq T x y T', ty, pos, aft, g⟩ nid st (rdOf x ++ rdOf y) [(d, .c (.lit (.bool (decide (b ≠ c)))))] := by
 have := step_pure (P := P) (n := n) (nid := nid) (st := st) (o := ⟨some d, .binOp .neq T x y T', ty, pos, aft, g⟩) (d := d) (u := .bool (decide (b ≠ c))) [(x, strV b), (y, strV c)] rfl hd rfl (by simpa using ⟨hx, hy⟩) (fun ev w hev => by
  have e1 := hev (x, strV b) (by simp)
  have e2 := hev (y, strV c) (by simp)
  simp only at e1 e2
  simp [execOp, e1, e2, eqGuard_str, binOp, Op.stringOp, str_list, bne]
  by_cases h : b = c <;> simp [h])
 simpa using this
theorem step_sub_u8 {i j : Int} (hx : Lit st x (.int .u8 i)) (hy : Lit st y (.int .u8 j)) (h : 0 ≤ i - j ∧ i - j ≤ 255) (hd : n d = true) : Step P n ⟨some d, .binOp .sub T x y T', ty, pos, aft, g⟩ nid st (rdOf x ++ rdOf y) [(d, .c (.lit (.int .u8 (i - j))))] := by
 have := step_sub (P := P) (n := n) (nid := nid) (T := T) (T' := T') (ty := ty) (pos := pos) (aft := aft) (g := g) hx hy hd
 have e : IntKind.u8.wrap (i - j) = i - j := by
  have e1 : IntKind.u8.bits = 8 := rfl
  have e2 : IntKind.u8.signed = false := rfl
  simp only [IntKind.wrap, e1, e2]
  simp
  omega
 rwa [e] at this
end
end Go.Pv
namespace Go.Proofs.YtpeioofkihpldaaDoor
open Go.Pv
instance : Mixed Tryd.prog := ⟨by kernel_rfl⟩
instance : OneTy Tryd.prog 1 := .of Tryd.underlying1 rfl (by kernel_rfl)
instance : ZeroTy Tryd.prog 1 [.lit .nilFunc] := .of (z := (.nilFunc)) (by kernel_rfl) (.cons (zL_ rfl) .nil)
instance : OneTy Tryd.prog 2 := .of Tryd.underlying2 rfl (by kernel_rfl)
instance : ZeroTy Tryd.prog 2 [.lit (.int .i64 0)] := .of (z := (.int .i64 0)) (by kernel_rfl) (.cons (zL_ rfl) .nil)
instance : IntTy Tryd.prog 2 .i64 := ⟨Tryd.underlying2⟩
instance : OneTy Tryd.prog 3 := .of Tryd.underlying3 rfl (by kernel_rfl)
instance : ZeroTy Tryd.prog 3 [.lit (.int .i64 0)] := .of (z := (.int .i64 0)) (by kernel_rfl) (.cons (zL_ rfl) .nil)
instance : IntTy Tryd.prog 3 .i64 := ⟨Tryd.underlying3⟩
instance : OneTy Tryd.prog 4 := .of Tryd.underlying4 rfl (by kernel_rfl)
instance : ZeroTy Tryd.prog 4 [.lit (.bool false)] := .of (z := (.bool false)) (by kernel_rfl) (.cons (zL_ rfl) .nil)
instance : BoolTy Tryd.prog 4 := ⟨Tryd.underlying4⟩
instance : OneTy Tryd.prog 5 := .of Tryd.underlying5 rfl (by kernel_rfl)
instance : ZeroTy Tryd.prog 5 [.lit (.int .u8 0)] := .of (z := (.int .u8 0)) (by kernel_rfl) (.cons (zL_ rfl) .nil)
instance : IntTy Tryd.prog 5 .u8 := ⟨Tryd.underlying5⟩
instance : OneTy Tryd.prog 9 := .of Tryd.underlying9 rfl (by kernel_rfl)
instance : ZeroTy Tryd.prog 9 [.lit (.string ⟨#[]⟩)] := .of (z := (.string ⟨#[]⟩)) (by kernel_rfl) (.cons (zL_ rfl) .nil)
instance : OneTy Tryd.prog 12 := .of Tryd.underlying12 rfl (by kernel_rfl)
instance : ZeroTy Tryd.prog 12 [.lit (.int .u64 0)] := .of (z := (.int .u64 0)) (by kernel_rfl) (.cons (zL_ rfl) .nil)
instance : IntTy Tryd.prog 12 .u64 := ⟨Tryd.underlying12⟩
instance : OneTy Tryd.prog 21 := .of Tryd.underlying21 rfl (by kernel_rfl)
instance : ZeroTy Tryd.prog 21 [.lit (.int .i32 0)] := .of (z := (.int .i32 0)) (by kernel_rfl) (.cons (zL_ rfl) .nil)
instance : IntTy Tryd.prog 21 .i32 := ⟨Tryd.underlying21⟩
instance : OneTy Tryd.prog 22 := .of Tryd.underlying22 rfl (by kernel_rfl)
instance : ZeroTy Tryd.prog 22 [.sl true 1 []] := .of (z := (.slice none 0 0)) (by kernel_rfl) (.cons (zero_nil) .nil)
instance : SliceTy Tryd.prog 22 1 := .of (z := (.agg #[.slice none 0 0])) (bytes := 24) Tryd.underlying22 (by kernel_rfl) rfl
instance : OneTy Tryd.prog 23 := .of Tryd.underlying23 rfl (by kernel_rfl)
instance : ZeroTy Tryd.prog 23 [.sl true 1 []] := .of (z := (.slice none 0 0)) (by kernel_rfl) (.cons (zero_nil) .nil)
instance : SliceTy Tryd.prog 23 1 := .of (z := (.slice none 0 0)) (bytes := 24) Tryd.underlying23 (by kernel_rfl) rfl
instance : MakeTy Tryd.prog 23 (.sl true 1 []) := .of (z := (.slice none 0 0)) (bytes := 24) Tryd.underlying23 (by kernel_rfl) (by decide) rfl (zero_nil)
instance : StructTy Tryd.prog 24 2 := .of Tryd.underlying24 (by kernel_rfl)
instance : BuildTy Tryd.prog 24 [1, 1] := .of (z := (.agg #[.slice none 0 0, .slice none 0 0])) Tryd.underlying24 (by kernel_rfl) (by kernel_rfl) rfl
instance : FieldTy Tryd.prog 24 0 0 := .of (ft := 22) (s := 0) Tryd.underlying24 rfl (by kernel_rfl)
instance : FieldTy Tryd.prog 24 1 1 := .of (ft := 23) (s := 0) Tryd.underlying24 rfl (by kernel_rfl)
instance : ZeroTy Tryd.prog 24 [.sl true 1 [], .sl true 1 []] := .of (z := (.agg #[.slice none 0 0, .slice none 0 0])) (by kernel_rfl) (.cons (zero_nil) (.cons (zero_nil) .nil))
instance : StructTy Tryd.prog 25 2 := .of Tryd.underlying25 (by kernel_rfl)
instance : BuildTy Tryd.prog 25 [1, 1] := .of (z := (.agg #[.slice none 0 0, .slice none 0 0])) Tryd.underlying25 (by kernel_rfl) (by kernel_rfl) rfl
instance : FieldTy Tryd.prog 25 0 0 := .of (ft := 22) (s := 0) Tryd.underlying25 rfl (by kernel_rfl)
instance : FieldTy Tryd.prog 25 1 1 := .of (ft := 23) (s := 0) Tryd.underlying25 rfl (by kernel_rfl)
instance : ZeroTy Tryd.prog 25 [.sl true 1 [], .sl true 1 []] := .of (z := (.agg #[.slice none 0 0, .slice none 0 0])) (by kernel_rfl) (.cons (zero_nil) (.cons (zero_nil) .nil))
instance : OneTy Tryd.prog 26 := .of Tryd.underlying26 rfl (by kernel_rfl)
instance : ZeroTy Tryd.prog 26 [.sl true 1 []] := .of (z := (.slice none 0 0)) (by kernel_rfl) (.cons (zero_nil) .nil)
instance : SliceTy Tryd.prog 26 1 := .of (z := (.int .i64 0)) (bytes := 8) Tryd.underlying26 (by kernel_rfl) rfl
instance : MakeTy Tryd.prog 26 (.lit (.int .i64 0)) := .of (z := (.int .i64 0)) (bytes := 8) Tryd.underlying26 (by kernel_rfl) (by decide) rfl (zL_ rfl)
instance : StructTy Tryd.prog 27 3 := .of Tryd.underlying27 (by kernel_rfl)
instance : BuildTy Tryd.prog 27 [1, 1, 1] := .of (z := (.agg #[.slice none 0 0, .slice none 0 0, .slice none 0 0])) Tryd.underlying27 (by kernel_rfl) (by kernel_rfl) rfl
instance : FieldTy Tryd.prog 27 0 0 := .of (ft := 26) (s := 0) Tryd.underlying27 rfl (by kernel_rfl)
instance : FieldTy Tryd.prog 27 1 1 := .of (ft := 26) (s := 0) Tryd.underlying27 rfl (by kernel_rfl)
instance : FieldTy Tryd.prog 27 2 2 := .of (ft := 26) (s := 0) Tryd.underlying27 rfl (by kernel_rfl)
instance : ZeroTy Tryd.prog 27 [.sl true 1 [], .sl true 1 [], .sl true 1 []] := .of (z := (.agg #[.slice none 0 0, .slice none 0 0, .slice none 0 0])) (by kernel_rfl) (.cons (zero_nil) (.cons (zero_nil) (.cons (zero_nil) .nil)))
instance : StructTy Tryd.prog 28 3 := .of Tryd.underlying28 (by kernel_rfl)
instance : BuildTy Tryd.prog 28 [1, 1, 1] := .of (z := (.agg #[.slice none 0 0, .slice none 0 0, .slice none 0 0])) Tryd.underlying28 (by kernel_rfl) (by kernel_rfl) rfl
instance : FieldTy Tryd.prog 28 0 0 := .of (ft := 26) (s := 0) Tryd.underlying28 rfl (by kernel_rfl)
instance : FieldTy Tryd.prog 28 1 1 := .of (ft := 26) (s := 0) Tryd.underlying28 rfl (by kernel_rfl)
instance : FieldTy Tryd.prog 28 2 2 := .of (ft := 26) (s := 0) Tryd.underlying28 rfl (by kernel_rfl)
instance : ZeroTy Tryd.prog 28 [.sl true 1 [], .sl true 1 [], .sl true 1 []] := .of (z := (.agg #[.slice none 0 0, .slice none 0 0, .slice none 0 0])) (by kernel_rfl) (.cons (zero_nil) (.cons (zero_nil) (.cons (zero_nil) .nil)))
instance : StructTy Tryd.prog 29 1 := .of Tryd.underlying29 (by kernel_rfl)
instance : BuildTy Tryd.prog 29 [1] := .of (z := (.agg #[.slice none 0 0])) Tryd.underlying29 (by kernel_rfl) (by kernel_rfl) rfl
instance : FieldTy Tryd.prog 29 0 0 := .of (ft := 23) (s := 0) Tryd.underlying29 rfl (by kernel_rfl)
instance : ZeroTy Tryd.prog 29 [.sl true 1 []] := .of (z := (.agg #[.slice none 0 0])) (by kernel_rfl) (.cons (zero_nil) .nil)
instance : StructTy Tryd.prog 30 1 := .of Tryd.underlying30 (by kernel_rfl)
instance : BuildTy Tryd.prog 30 [1] := .of (z := (.agg #[.slice none 0 0])) Tryd.underlying30 (by kernel_rfl) (by kernel_rfl) rfl
instance : FieldTy Tryd.prog 30 0 0 := .of (ft := 23) (s := 0) Tryd.underlying30 rfl (by kernel_rfl)
instance : ZeroTy Tryd.prog 30 [.sl true 1 []] := .of (z := (.agg #[.slice none 0 0])) (by kernel_rfl) (.cons (zero_nil) .nil)
instance : StructTy Tryd.prog 31 6 := .of Tryd.underlying31 (by kernel_rfl)
instance : BuildTy Tryd.prog 31 [2, 3, 1] := .of (z := (.agg #[.slice none 0 0, .slice none 0 0, .slice none 0 0, .slice none 0 0, .slice none 0 0, .slice none 0 0])) Tryd.underlying31 (by kernel_rfl) (by kernel_rfl) rfl
instance : FieldTy Tryd.prog 31 0 0 := .of (ft := 25) (s := 1) Tryd.underlying31 rfl (by kernel_rfl)
instance : FieldTy Tryd.prog 31 1 2 := .of (ft := 28) (s := 2) Tryd.underlying31 rfl (by kernel_rfl)
instance : FieldTy Tryd.prog 31 2 5 := .of (ft := 30) (s := 0) Tryd.underlying31 rfl (by kernel_rfl)
instance : ZeroTy Tryd.prog 31 [.sl true 1 [], .sl true 1 [], .sl true 1 [], .sl true 1 [], .sl true 1 [], .sl true 1 []] := .of (z := (.agg #[.slice none 0 0, .slice none 0 0, .slice none 0 0, .slice none 0 0, .slice none 0 0, .slice none 0 0])) (by kernel_rfl) (.cons (zero_nil) (.cons (zero_nil) (.cons (zero_nil) (.cons (zero_nil) (.cons (zero_nil) (.cons (zero_nil) .nil))))))
instance : StructTy Tryd.prog 32 6 := .of Tryd.underlying32 (by kernel_rfl)
instance : BuildTy Tryd.prog 32 [2, 3, 1] := .of (z := (.agg #[.slice none 0 0, .slice none 0 0, .slice none 0 0, .slice none 0 0, .slice none 0 0, .slice none 0 0])) Tryd.underlying32 (by kernel_rfl) (by kernel_rfl) rfl
instance : FieldTy Tryd.prog 32 0 0 := .of (ft := 25) (s := 1) Tryd.underlying32 rfl (by kernel_rfl)
instance : FieldTy Tryd.prog 32 1 2 := .of (ft := 28) (s := 2) Tryd.underlying32 rfl (by kernel_rfl)
instance : FieldTy Tryd.prog 32 2 5 := .of (ft := 30) (s := 0) Tryd.underlying32 rfl (by kernel_rfl)
instance : ZeroTy Tryd.prog 32 [.sl true 1 [], .sl true 1 [], .sl true 1 [], .sl true 1 [], .sl true 1 [], .sl true 1 []] := .of (z := (.agg #[.slice none 0 0, .slice none 0 0, .slice none 0 0, .slice none 0 0, .slice none 0 0, .slice none 0 0])) (by kernel_rfl) (.cons (zero_nil) (.cons (zero_nil) (.cons (zero_nil) (.cons (zero_nil) (.cons (zero_nil) (.cons (zero_nil) .nil))))))
instance : OneTy Tryd.prog 33 := .of Tryd.underlying33 rfl (by kernel_rfl)
instance : ZeroTy Tryd.prog 33 [.lit .nilFunc] := .of (z := (.nilFunc)) (by kernel_rfl) (.cons (zL_ rfl) .nil)
instance : OneTy Tryd.prog 34 := .of Tryd.underlying34 rfl (by kernel_rfl)
instance : ZeroTy Tryd.prog 34 [.lit .nilFunc] := .of (z := (.nilFunc)) (by kernel_rfl) (.cons (zL_ rfl) .nil)
instance : OneTy Tryd.prog 35 := .of Tryd.underlying35 rfl (by kernel_rfl)
instance : ZeroTy Tryd.prog 35 [.lit .nilFunc] := .of (z := (.nilFunc)) (by kernel_rfl) (.cons (zL_ rfl) .nil)
instance : OneTy Tryd.prog 36 := .of Tryd.underlying36 rfl (by kernel_rfl)
instance : ZeroTy Tryd.prog 36 [.lit .nilFunc] := .of (z := (.nilFunc)) (by kernel_rfl) (.cons (zL_ rfl) .nil)
instance : OneTy Tryd.prog 38 := .of Tryd.underlying38 rfl (by kernel_rfl)
instance : ZeroTy Tryd.prog 38 [.lit .nilFunc] := .of (z := (.nilFunc)) (by kernel_rfl) (.cons (zL_ rfl) .nil)
instance : OneTy Tryd.prog 40 := .of Tryd.underlying40 rfl (by kernel_rfl)
instance : ZeroTy Tryd.prog 40 [.lit .nilFunc] := .of (z := (.nilFunc)) (by kernel_rfl) (.cons (zL_ rfl) .nil)
instance : OneTy Tryd.prog 42 := .of Tryd.underlying42 rfl (by kernel_rfl)
instance : ZeroTy Tryd.prog 42 [.lit .nilFunc] := .of (z := (.nilFunc)) (by kernel_rfl) (.cons (zL_ rfl) .nil)
instance : OneTy Tryd.prog 43 := .of Tryd.underlying43 rfl (by kernel_rfl)
instance : ZeroTy Tryd.prog 43 [.lit .nilFunc] := .of (z := (.nilFunc)) (by kernel_rfl) (.cons (zL_ rfl) .nil)
instance : OneTy Tryd.prog 44 := .of Tryd.underlying44 rfl (by kernel_rfl)
instance : ZeroTy Tryd.prog 44 [.lit .nilFunc] := .of (z := (.nilFunc)) (by kernel_rfl) (.cons (zL_ rfl) .nil)
instance : OneTy Tryd.prog 45 := .of Tryd.underlying45 rfl (by kernel_rfl)
instance : ZeroTy Tryd.prog 45 [.lit .nilFunc] := .of (z := (.nilFunc)) (by kernel_rfl) (.cons (zL_ rfl) .nil)
instance : OneTy Tryd.prog 46 := .of Tryd.underlying46 rfl (by kernel_rfl)
instance : ZeroTy Tryd.prog 46 [.lit .nilFunc] := .of (z := (.nilFunc)) (by kernel_rfl) (.cons (zL_ rfl) .nil)
instance : OneTy Tryd.prog 47 := .of Tryd.underlying47 rfl (by kernel_rfl)
instance : ZeroTy Tryd.prog 47 [.lit .nilFunc] := .of (z := (.nilFunc)) (by kernel_rfl) (.cons (zL_ rfl) .nil)
instance : OneTy Tryd.prog 48 := .of Tryd.underlying48 rfl (by kernel_rfl)
instance : ZeroTy Tryd.prog 48 [.lit .nilFunc] := .of (z := (.nilFunc)) (by kernel_rfl) (.cons (zL_ rfl) .nil)
instance : StructTy Tryd.prog 49 1 := .of Tryd.underlying49 (by kernel_rfl)
instance : BuildTy Tryd.prog 49 [1] := .of (z := (.agg #[.slice none 0 0])) Tryd.underlying49 (by kernel_rfl) (by kernel_rfl) rfl
instance : FieldTy Tryd.prog 49 0 0 := .of (ft := 26) (s := 0) Tryd.underlying49 rfl (by kernel_rfl)
instance : ZeroTy Tryd.prog 49 [.sl true 1 []] := .of (z := (.agg #[.slice none 0 0])) (by kernel_rfl) (.cons (zero_nil) .nil)
instance : StructTy Tryd.prog 50 1 := .of Tryd.underlying50 (by kernel_rfl)
instance : BuildTy Tryd.prog 50 [1] := .of (z := (.agg #[.slice none 0 0])) Tryd.underlying50 (by kernel_rfl) (by kernel_rfl) rfl
instance : FieldTy Tryd.prog 50 0 0 := .of (ft := 26) (s := 0) Tryd.underlying50 rfl (by kernel_rfl)
instance : ZeroTy Tryd.prog 50 [.sl true 1 []] := .of (z := (.agg #[.slice none 0 0])) (by kernel_rfl) (.cons (zero_nil) .nil)
instance : OneTy Tryd.prog 51 := .of Tryd.underlying51 rfl (by kernel_rfl)
instance : ZeroTy Tryd.prog 51 [.lit .nilFunc] := .of (z := (.nilFunc)) (by kernel_rfl) (.cons (zL_ rfl) .nil)
instance : OneTy Tryd.prog 53 := .of Tryd.underlying53 rfl (by kernel_rfl)
instance : ZeroTy Tryd.prog 53 [.lit .nilFunc] := .of (z := (.nilFunc)) (by kernel_rfl) (.cons (zL_ rfl) .nil)
instance : OneTy Tryd.prog 54 := .of Tryd.underlying54 rfl (by kernel_rfl)
instance : ZeroTy Tryd.prog 54 [.sl true 1 []] := .of (z := (.slice none 0 0)) (by kernel_rfl) (.cons (zero_nil) .nil)
instance : SliceTy Tryd.prog 54 1 := .of (z := (.string ⟨#[]⟩)) (bytes := 16) Tryd.underlying54 (by kernel_rfl) rfl
instance : MakeTy Tryd.prog 54 (.lit (.string ⟨#[]⟩)) := .of (z := (.string ⟨#[]⟩)) (bytes := 16) Tryd.underlying54 (by kernel_rfl) (by decide) rfl (zL_ rfl)
instance : OneTy Tryd.prog 55 := .of Tryd.underlying55 rfl (by kernel_rfl)
instance : ZeroTy Tryd.prog 55 [.lit .nilFunc] := .of (z := (.nilFunc)) (by kernel_rfl) (.cons (zL_ rfl) .nil)
instance : OneTy Tryd.prog 57 := .of Tryd.underlying57 rfl (by kernel_rfl)
instance : ZeroTy Tryd.prog 57 [.lit .nilFunc] := .of (z := (.nilFunc)) (by kernel_rfl) (.cons (zL_ rfl) .nil)
instance : OneTy Tryd.prog 59 := .of Tryd.underlying59 rfl (by kernel_rfl)
instance : ZeroTy Tryd.prog 59 [.lit .nilFunc] := .of (z := (.nilFunc)) (by kernel_rfl) (.cons (zL_ rfl) .nil)
instance : OneTy Tryd.prog 60 := .of Tryd.underlying60 rfl (by kernel_rfl)
instance : ZeroTy Tryd.prog 60 [.lit .nilFunc] := .of (z := (.nilFunc)) (by kernel_rfl) (.cons (zL_ rfl) .nil)
instance : OneTy Tryd.prog 61 := .of Tryd.underlying61 rfl (by kernel_rfl)
instance : ZeroTy Tryd.prog 61 [.lit .nilFunc] := .of (z := (.nilFunc)) (by kernel_rfl) (.cons (zL_ rfl) .nil)
instance : OneTy Tryd.prog 63 := .of Tryd.underlying63 rfl (by kernel_rfl)
instance : ZeroTy Tryd.prog 63 [.lit .nilFunc] := .of (z := (.nilFunc)) (by kernel_rfl) (.cons (zL_ rfl) .nil)
instance : OneTy Tryd.prog 64 := .of Tryd.underlying64 rfl (by kernel_rfl)
instance : ZeroTy Tryd.prog 64 [.lit .nilFunc] := .of (z := (.nilFunc)) (by kernel_rfl) (.cons (zL_ rfl) .nil)
instance : OneTy Tryd.prog 65 := .of Tryd.underlying65 rfl (by kernel_rfl)
instance : ZeroTy Tryd.prog 65 [.lit .nilFunc] := .of (z := (.nilFunc)) (by kernel_rfl) (.cons (zL_ rfl) .nil)
instance : OneTy Tryd.prog 66 := .of Tryd.underlying66 rfl (by kernel_rfl)
instance : ZeroTy Tryd.prog 66 [.lit .nilFunc] := .of (z := (.nilFunc)) (by kernel_rfl) (.cons (zL_ rfl) .nil)
instance : OneTy Tryd.prog 67 := .of Tryd.underlying67 rfl (by kernel_rfl)
instance : ZeroTy Tryd.prog 67 [.lit .nilFunc] := .of (z := (.nilFunc)) (by kernel_rfl) (.cons (zL_ rfl) .nil)
instance : OneTy Tryd.prog 68 := .of Tryd.underlying68 rfl (by kernel_rfl)
instance : ZeroTy Tryd.prog 68 [.lit .nilFunc] := .of (z := (.nilFunc)) (by kernel_rfl) (.cons (zL_ rfl) .nil)
instance : OneTy Tryd.prog 69 := .of Tryd.underlying69 rfl (by kernel_rfl)
instance : ZeroTy Tryd.prog 69 [.lit .nilFunc] := .of (z := (.nilFunc)) (by kernel_rfl) (.cons (zL_ rfl) .nil)
instance : OneTy Tryd.prog 70 := .of Tryd.underlying70 rfl (by kernel_rfl)
instance : ZeroTy Tryd.prog 70 [.lit .nilFunc] := .of (z := (.nilFunc)) (by kernel_rfl) (.cons (zL_ rfl) .nil)
instance : OneTy Tryd.prog 71 := .of Tryd.underlying71 rfl (by kernel_rfl)
instance : ZeroTy Tryd.prog 71 [.lit .nilFunc] := .of (z := (.nilFunc)) (by kernel_rfl) (.cons (zL_ rfl) .nil)
instance : OneTy Tryd.prog 72 := .of Tryd.underlying72 rfl (by kernel_rfl)
instance : ZeroTy Tryd.prog 72 [.lit .nilFunc] := .of (z := (.nilFunc)) (by kernel_rfl) (.cons (zL_ rfl) .nil)
instance : OneTy Tryd.prog 73 := .of Tryd.underlying73 rfl (by kernel_rfl)
instance : ZeroTy Tryd.prog 73 [.lit .nilFunc] := .of (z := (.nilFunc)) (by kernel_rfl) (.cons (zL_ rfl) .nil)
instance : OneTy Tryd.prog 74 := .of Tryd.underlying74 rfl (by kernel_rfl)
instance : ZeroTy Tryd.prog 74 [.lit .nilFunc] := .of (z := (.nilFunc)) (by kernel_rfl) (.cons (zL_ rfl) .nil)
instance : OneTy Tryd.prog 76 := .of Tryd.underlying76 rfl (by kernel_rfl)
instance : ZeroTy Tryd.prog 76 [.lit .nilFunc] := .of (z := (.nilFunc)) (by kernel_rfl) (.cons (zL_ rfl) .nil)
instance : OneTy Tryd.prog 77 := .of Tryd.underlying77 rfl (by kernel_rfl)
instance : ZeroTy Tryd.prog 77 [.lit .nilFunc] := .of (z := (.nilFunc)) (by kernel_rfl) (.cons (zL_ rfl) .nil)
instance : OneTy Tryd.prog 78 := .of Tryd.underlying78 rfl (by kernel_rfl)
instance : ZeroTy Tryd.prog 78 [.lit .nilFunc] := .of (z := (.nilFunc)) (by kernel_rfl) (.cons (zL_ rfl) .nil)
instance : OneTy Tryd.prog 79 := .of Tryd.underlying79 rfl (by kernel_rfl)
instance : ZeroTy Tryd.prog 79 [.lit .nilFunc] := .of (z := (.nilFunc)) (by kernel_rfl) (.cons (zL_ rfl) .nil)
instance : OneTy Tryd.prog 80 := .of Tryd.underlying80 rfl (by kernel_rfl)
instance : ZeroTy Tryd.prog 80 [.lit .nilFunc] := .of (z := (.nilFunc)) (by kernel_rfl) (.cons (zL_ rfl) .nil)
instance : OneTy Tryd.prog 81 := .of Tryd.underlying81 rfl (by kernel_rfl)
instance : ZeroTy Tryd.prog 81 [.lit .nilFunc] := .of (z := (.nilFunc)) (by kernel_rfl) (.cons (zL_ rfl) .nil)
instance : OneTy Tryd.prog 82 := .of Tryd.underlying82 rfl (by kernel_rfl)
instance : ZeroTy Tryd.prog 82 [.lit .nilFunc] := .of (z := (.nilFunc)) (by kernel_rfl) (.cons (zL_ rfl) .nil)
instance : OneTy Tryd.prog 83 := .of Tryd.underlying83 rfl (by kernel_rfl)
instance : ZeroTy Tryd.prog 83 [.lit .nilFunc] := .of (z := (.nilFunc)) (by kernel_rfl) (.cons (zL_ rfl) .nil)
instance : OneTy Tryd.prog 85 := .of Tryd.underlying85 rfl (by kernel_rfl)
instance : ZeroTy Tryd.prog 85 [.lit .nilFunc] := .of (z := (.nilFunc)) (by kernel_rfl) (.cons (zL_ rfl) .nil)
instance : OneTy Tryd.prog 86 := .of Tryd.underlying86 rfl (by kernel_rfl)
instance : ZeroTy Tryd.prog 86 [.lit .nilFunc] := .of (z := (.nilFunc)) (by kernel_rfl) (.cons (zL_ rfl) .nil)
instance : OneTy Tryd.prog 87 := .of Tryd.underlying87 rfl (by kernel_rfl)
instance : ZeroTy Tryd.prog 87 [.lit .nilFunc] := .of (z := (.nilFunc)) (by kernel_rfl) (.cons (zL_ rfl) .nil)
instance : OneTy Tryd.prog 88 := .of Tryd.underlying88 rfl (by kernel_rfl)
instance : ZeroTy Tryd.prog 88 [.lit .nilFunc] := .of (z := (.nilFunc)) (by kernel_rfl) (.cons (zL_ rfl) .nil)
instance : OneTy Tryd.prog 89 := .of Tryd.underlying89 rfl (by kernel_rfl)
instance : ZeroTy Tryd.prog 89 [.lit .nilFunc] := .of (z := (.nilFunc)) (by kernel_rfl) (.cons (zL_ rfl) .nil)
instance : OneTy Tryd.prog 90 := .of Tryd.underlying90 rfl (by kernel_rfl)
instance : ZeroTy Tryd.prog 90 [.lit .nilFunc] := .of (z := (.nilFunc)) (by kernel_rfl) (.cons (zL_ rfl) .nil)
instance : OneTy Tryd.prog 91 := .of Tryd.underlying91 rfl (by kernel_rfl)
instance : ZeroTy Tryd.prog 91 [.lit .nilFunc] := .of (z := (.nilFunc)) (by kernel_rfl) (.cons (zL_ rfl) .nil)
instance : OneTy Tryd.prog 92 := .of Tryd.underlying92 rfl (by kernel_rfl)
instance : ZeroTy Tryd.prog 92 [.lit .nilFunc] := .of (z := (.nilFunc)) (by kernel_rfl) (.cons (zL_ rfl) .nil)
instance : OneTy Tryd.prog 93 := .of Tryd.underlying93 rfl (by kernel_rfl)
instance : ZeroTy Tryd.prog 93 [.lit .nilFunc] := .of (z := (.nilFunc)) (by kernel_rfl) (.cons (zL_ rfl) .nil)
instance : OneTy Tryd.prog 94 := .of Tryd.underlying94 rfl (by kernel_rfl)
instance : ZeroTy Tryd.prog 94 [.lit .nilFunc] := .of (z := (.nilFunc)) (by kernel_rfl) (.cons (zL_ rfl) .nil)
instance : OneTy Tryd.prog 95 := .of Tryd.underlying95 rfl (by kernel_rfl)
instance : ZeroTy Tryd.prog 95 [.lit .nilFunc] := .of (z := (.nilFunc)) (by kernel_rfl) (.cons (zL_ rfl) .nil)
instance : OneTy Tryd.prog 96 := .of Tryd.underlying96 rfl (by kernel_rfl)
instance : ZeroTy Tryd.prog 96 [.lit .nilFunc] := .of (z := (.nilFunc)) (by kernel_rfl) (.cons (zL_ rfl) .nil)
instance : OneTy Tryd.prog 97 := .of Tryd.underlying97 rfl (by kernel_rfl)
instance : ZeroTy Tryd.prog 97 [.lit .nilFunc] := .of (z := (.nilFunc)) (by kernel_rfl) (.cons (zL_ rfl) .nil)
instance : OneTy Tryd.prog 98 := .of Tryd.underlying98 rfl (by kernel_rfl)
instance : ZeroTy Tryd.prog 98 [.lit .nilFunc] := .of (z := (.nilFunc)) (by kernel_rfl) (.cons (zL_ rfl) .nil)
instance : OneTy Tryd.prog 99 := .of Tryd.underlying99 rfl (by kernel_rfl)
instance : ZeroTy Tryd.prog 99 [.lit (.pointer none)] := .of (z := (.pointer none)) (by kernel_rfl) (.cons (zL_ rfl) .nil)
instance : OneTy Tryd.prog 100 := .of Tryd.underlying100 rfl (by kernel_rfl)
instance : ZeroTy Tryd.prog 100 [.sl true 1 []] := .of (z := (.slice none 0 0)) (by kernel_rfl) (.cons (zero_nil) .nil)
instance : SliceTy Tryd.prog 100 1 := .of (z := (.int .u8 0)) (bytes := 1) Tryd.underlying100 (by kernel_rfl) rfl
instance : MakeTy Tryd.prog 100 (.lit (.int .u8 0)) := .of (z := (.int .u8 0)) (bytes := 1) Tryd.underlying100 (by kernel_rfl) (by decide) rfl (zL_ rfl)
instance : StructTy Tryd.prog 101 2 := .of Tryd.underlying101 (by kernel_rfl)
instance : BuildTy Tryd.prog 101 [1, 1] := .of (z := (.agg #[.pointer none, .slice none 0 0])) Tryd.underlying101 (by kernel_rfl) (by kernel_rfl) rfl
instance : FieldTy Tryd.prog 101 0 0 := .of (ft := 99) (s := 0) Tryd.underlying101 rfl (by kernel_rfl)
instance : FieldTy Tryd.prog 101 1 1 := .of (ft := 100) (s := 0) Tryd.underlying101 rfl (by kernel_rfl)
instance : ZeroTy Tryd.prog 101 [.lit (.pointer none), .sl true 1 []] := .of (z := (.agg #[.pointer none, .slice none 0 0])) (by kernel_rfl) (.cons (zL_ rfl) (.cons (zero_nil) .nil))
instance : StructTy Tryd.prog 102 2 := .of Tryd.underlying102 (by kernel_rfl)
instance : BuildTy Tryd.prog 102 [1, 1] := .of (z := (.agg #[.pointer none, .slice none 0 0])) Tryd.underlying102 (by kernel_rfl) (by kernel_rfl) rfl
instance : FieldTy Tryd.prog 102 0 0 := .of (ft := 99) (s := 0) Tryd.underlying102 rfl (by kernel_rfl)
instance : FieldTy Tryd.prog 102 1 1 := .of (ft := 100) (s := 0) Tryd.underlying102 rfl (by kernel_rfl)
instance : ZeroTy Tryd.prog 102 [.lit (.pointer none), .sl true 1 []] := .of (z := (.agg #[.pointer none, .slice none 0 0])) (by kernel_rfl) (.cons (zL_ rfl) (.cons (zero_nil) .nil))
instance : OneTy Tryd.prog 103 := .of Tryd.underlying103 rfl (by kernel_rfl)
instance : ZeroTy Tryd.prog 103 [.lit .nilFunc] := .of (z := (.nilFunc)) (by kernel_rfl) (.cons (zL_ rfl) .nil)
instance : OneTy Tryd.prog 108 := .of Tryd.underlying108 rfl (by kernel_rfl)
instance : ZeroTy Tryd.prog 108 [.lit .nilFunc] := .of (z := (.nilFunc)) (by kernel_rfl) (.cons (zL_ rfl) .nil)
instance : OneTy Tryd.prog 109 := .of Tryd.underlying109 rfl (by kernel_rfl)
instance : ZeroTy Tryd.prog 109 [.lit .nilFunc] := .of (z := (.nilFunc)) (by kernel_rfl) (.cons (zL_ rfl) .nil)
instance : OneTy Tryd.prog 110 := .of Tryd.underlying110 rfl (by kernel_rfl)
instance : ZeroTy Tryd.prog 110 [.lit .nilFunc] := .of (z := (.nilFunc)) (by kernel_rfl) (.cons (zL_ rfl) .nil)
instance : OneTy Tryd.prog 111 := .of Tryd.underlying111 rfl (by kernel_rfl)
instance : ZeroTy Tryd.prog 111 [.lit .nilFunc] := .of (z := (.nilFunc)) (by kernel_rfl) (.cons (zL_ rfl) .nil)
instance : OneTy Tryd.prog 112 := .of Tryd.underlying112 rfl (by kernel_rfl)
instance : ZeroTy Tryd.prog 112 [.lit (.pointer none)] := .of (z := (.pointer none)) (by kernel_rfl) (.cons (zL_ rfl) .nil)
instance : OneTy Tryd.prog 113 := .of Tryd.underlying113 rfl (by kernel_rfl)
instance : ZeroTy Tryd.prog 113 [.lit .nilFunc] := .of (z := (.nilFunc)) (by kernel_rfl) (.cons (zL_ rfl) .nil)
instance : OneTy Tryd.prog 114 := .of Tryd.underlying114 rfl (by kernel_rfl)
instance : ZeroTy Tryd.prog 114 [.lit .nilFunc] := .of (z := (.nilFunc)) (by kernel_rfl) (.cons (zL_ rfl) .nil)
instance : OneTy Tryd.prog 115 := .of Tryd.underlying115 rfl (by kernel_rfl)
instance : ZeroTy Tryd.prog 115 [.lit .nilFunc] := .of (z := (.nilFunc)) (by kernel_rfl) (.cons (zL_ rfl) .nil)
instance : OneTy Tryd.prog 117 := .of Tryd.underlying117 rfl (by kernel_rfl)
instance : ZeroTy Tryd.prog 117 [.lit (.int .u64 0)] := .of (z := (.int .u64 0)) (by kernel_rfl) (.cons (zL_ rfl) .nil)
instance : IntTy Tryd.prog 117 .u64 := ⟨Tryd.underlying117⟩
instance : OneTy Tryd.prog 118 := .of Tryd.underlying118 rfl (by kernel_rfl)
instance : ZeroTy Tryd.prog 118 [.lit .nilFunc] := .of (z := (.nilFunc)) (by kernel_rfl) (.cons (zL_ rfl) .nil)
instance : OneTy Tryd.prog 119 := .of Tryd.underlying119 rfl (by kernel_rfl)
instance : ZeroTy Tryd.prog 119 [.lit .nilFunc] := .of (z := (.nilFunc)) (by kernel_rfl) (.cons (zL_ rfl) .nil)
instance : OneTy Tryd.prog 121 := .of Tryd.underlying121 rfl (by kernel_rfl)
instance : ZeroTy Tryd.prog 121 [.lit .nilFunc] := .of (z := (.nilFunc)) (by kernel_rfl) (.cons (zL_ rfl) .nil)
instance : OneTy Tryd.prog 123 := .of Tryd.underlying123 rfl (by kernel_rfl)
instance : ZeroTy Tryd.prog 123 [.lit .nilFunc] := .of (z := (.nilFunc)) (by kernel_rfl) (.cons (zL_ rfl) .nil)
instance : OneTy Tryd.prog 124 := .of Tryd.underlying124 rfl (by kernel_rfl)
instance : ZeroTy Tryd.prog 124 [.lit .nilFunc] := .of (z := (.nilFunc)) (by kernel_rfl) (.cons (zL_ rfl) .nil)
instance : OneTy Tryd.prog 125 := .of Tryd.underlying125 rfl (by kernel_rfl)
instance : ZeroTy Tryd.prog 125 [.lit .nilFunc] := .of (z := (.nilFunc)) (by kernel_rfl) (.cons (zL_ rfl) .nil)
instance : OneTy Tryd.prog 126 := .of Tryd.underlying126 rfl (by kernel_rfl)
instance : ZeroTy Tryd.prog 126 [.lit .nilFunc] := .of (z := (.nilFunc)) (by kernel_rfl) (.cons (zL_ rfl) .nil)
instance : OneTy Tryd.prog 127 := .of Tryd.underlying127 rfl (by kernel_rfl)
instance : ZeroTy Tryd.prog 127 [.lit .nilFunc] := .of (z := (.nilFunc)) (by kernel_rfl) (.cons (zL_ rfl) .nil)
instance : OneTy Tryd.prog 129 := .of Tryd.underlying129 rfl (by kernel_rfl)
instance : ZeroTy Tryd.prog 129 [.lit (.int .u32 0)] := .of (z := (.int .u32 0)) (by kernel_rfl) (.cons (zL_ rfl) .nil)
instance : IntTy Tryd.prog 129 .u32 := ⟨Tryd.underlying129⟩
instance : OneTy Tryd.prog 131 := .of Tryd.underlying131 rfl (by kernel_rfl)
instance : ZeroTy Tryd.prog 131 [.lit .nilFunc] := .of (z := (.nilFunc)) (by kernel_rfl) (.cons (zL_ rfl) .nil)
instance : OneTy Tryd.prog 132 := .of Tryd.underlying132 rfl (by kernel_rfl)
instance : ZeroTy Tryd.prog 132 [.lit (.int .u64 0)] := .of (z := (.int .u64 0)) (by kernel_rfl) (.cons (zL_ rfl) .nil)
instance : IntTy Tryd.prog 132 .u64 := ⟨Tryd.underlying132⟩
instance : OneTy Tryd.prog 133 := .of Tryd.underlying133 rfl (by kernel_rfl)
instance : ZeroTy Tryd.prog 133 [.lit .nilFunc] := .of (z := (.nilFunc)) (by kernel_rfl) (.cons (zL_ rfl) .nil)
instance : OneTy Tryd.prog 134 := .of Tryd.underlying134 rfl (by kernel_rfl)
instance : ZeroTy Tryd.prog 134 [.lit .nilFunc] := .of (z := (.nilFunc)) (by kernel_rfl) (.cons (zL_ rfl) .nil)
instance : OneTy Tryd.prog 142 := .of Tryd.underlying142 rfl (by kernel_rfl)
instance : ZeroTy Tryd.prog 142 [.lit .nilFunc] := .of (z := (.nilFunc)) (by kernel_rfl) (.cons (zL_ rfl) .nil)
instance : OneTy Tryd.prog 145 := .of Tryd.underlying145 rfl (by kernel_rfl)
instance : ZeroTy Tryd.prog 145 [.lit .nilFunc] := .of (z := (.nilFunc)) (by kernel_rfl) (.cons (zL_ rfl) .nil)
end Go.Proofs.YtpeioofkihpldaaDoor
