/- Texts that are made: joined ones, and those out of rows of bytes. No condition. -/
import Derived.Test.YtpdfadnpfmlfgaaGreatDoorPPvS
import Derived.Laws.Strings
import Derived.Test.YtpdfadnpfmlfgaaGreatDoorPTy
import Derived.Test.YtpdfadnpfmlfgaaGreatDoorPPvU
import Derived.Laws.BytesString
import Derived.Laws.Cells
set_option linter.unusedVariables false
set_option linter.unusedSimpArgs false
namespace Go.Pv
open Go.RowKit
section
variable {P : Program} {n : NN} {nid nx : Nat} {st : Nat → AV} {f : Fr} {X : Nat → Prop} {a : Act} {w : World} {ρ : Nat → Rho} {L : Nat → List Nat} {Q : Exit → (Nat → AV) → Nat → Prop}
theorem RepO.grow (h : RepO f X st a w ρ L) (hs : f.N.S = []) (N : Nat → Prop) (hN : ∀ g, N g → g < w.heap.size ∧ (∀ t, g ∉ L t) ∧ (g ∈ f.M ∨ f.w0.heap.size ≤ g)) :
  ∃ f', After f f' ∧ (∀ g, f'.F g ↔ f.F g ∨ N g) ∧ RepO f' X st a w ρ L := by
 let M' : List Nat := open Classical in (List.range w.heap.size).filter fun g => decide (¬ (f.F g ∨ N g) ∧ (g ∈ f.M ∨ f.w0.heap.size ≤ g))
 have hM' : ∀ g, g ∈ M' ↔ g < w.heap.size ∧ ¬ (f.F g ∨ N g) ∧ (g ∈ f.M ∨ f.w0.heap.size ≤ g) := fun g => by simp only [M', List.mem_filter, List.mem_range, decide_eq_true_eq]
 let f' : Fr := { w0 := w, M := M', N := f.N, H := f.H, F := fun g => f.F g ∨ N g, hF := fun g hg => ⟨Or.elim hg (fun h1 => h.F_lt h1) (fun h1 => (hN g h1).1), fun hm => ((hM' g).1 hm).2.1 hg⟩, R := f.R, hK := f.hK, hR := h.tabR (fun _ h => .inl h) (fun _ _ => rfl), hS := by rw [hs]; exact fun _ h => (List.not_mem_nil h).elim }
 refine ⟨f', ⟨rfl, rfl, rfl, fun g hg => .inl hg, h.keep, fun g hg => ((hM' g).1 hg).2.2, fun g hg => ?_, fun hne => absurd hs hne⟩, fun g => Iff.rfl, ?_⟩
 ·rcases hg with hg | hg
  ·exact .inl hg
  ·exact .inr (hN g hg).2.2
 ·refine ⟨h.defers, h.size, h.hold, ⟨rfl, rfl, rfl, Nat.le_refl _, fun _ _ _ => rfl, Nat.le_refl _⟩, fun t => SR.same (fun g hg => .inl hg) (fun _ _ => rfl) _ _ _ (h.slots t) (fun _ _ => rfl) (fun _ _ => rfl), h.nodup, h.disj, fun t g hg => ⟨(h.bound t g hg).1, fun hf => ?_⟩, h.ids, fun t g hg => .inl ((hM' g).2 ⟨(h.bound t g hg).1, fun hf => ?_, h.mine t g hg⟩), h.names⟩
  all_goals
   rcases hf with hf | hf
   ·exact (h.bound t g hg).2 hf
   ·exact (hN g hf).2.1 t hg
theorem RepO.drop (h : RepO f X st a w ρ L) (x : Nat) (av : AV) (Lx : List Nat) (hsr : SR f.F w ρ av (tmp a x) Lx) (hids : ∀ i ∈ av.ids, X i) (hsub : ∀ g ∈ Lx, g ∈ L x) (hnd : Lx.Nodup) : RepO f X (put st x av) a w ρ (fun t => if t = x then Lx else L t) := by
 refine h.step (fun t => t = x) [] X _ _ w ρ _ rfl rfl (fun _ _ => rfl) (Keep.refl w) (fun g hg => by simp at hg) (fun _ _ => rfl) (fun t ht => ⟨put_other _ _ _ _ ht, rfl, by simp [ht]⟩) (fun t ht => ?_) (fun t u ht hu htu => absurd (ht.trans hu.symm) htu) (fun _ h => h) (fun t ht i hi => ?_)
 ·subst ht
  rw [put_same, if_pos rfl]
  exact ⟨hsr, hnd, fun g hg => ⟨(h.bound t g (hsub g hg)).1, .inl ⟨t, rfl, hsub g hg⟩⟩⟩
 ·subst ht; rw [put_same] at hi; exact hids i hi
theorem WpA.freezeIn {c : Code} (x : Nat) {id : Nat} {ds : List D} (hS : n.S = []) (hx : st x = .own id (.pt true ds)) (h : WpA P n c (put st x (.own id (.pt true (D.erases ds)))) nx Q) : WpA P n c st nx Q := by
 refine WpA.of0 ?_
 intro f a w hn ⟨ρ, L, hr⟩
 subst hn
 have hsl := hr.slots x
 rw [hx] at hsl
 simp only [SR, RD] at hsl
 obtain ⟨e0, g, us, L1, ty, ev, eL, hb, hds⟩ := hsl
 have hnd := hr.nodup x
 rw [eL, List.nodup_cons] at hnd
 have hL1 : ∀ g', g' ∈ L1 → g' ∈ L x := fun g' hg => by rw [eL]; simp [hg]
 have hN : ∀ g', g' ∈ L1 → g' < w.heap.size ∧ (∀ t, g' ∉ (if t = x then [g] else L t)) ∧ (g' ∈ f.M ∨ f.w0.heap.size ≤ g') := fun g' hg => ⟨(hr.bound x g' (hL1 g' hg)).1, fun t ht => by
  split at ht
  ·simp only [List.mem_singleton] at ht
   exact hnd.1 (by rw [← ht]; exact hg)
  ·rename_i e
   exact hr.disj t x e g' ht (hL1 g' hg), hr.mine x g' (hL1 g' hg)⟩
 -- a frame in which the slot is dead but owns the variable's block
 let M' : List Nat := open Classical in (List.range w.heap.size).filter fun g' => decide (¬ (f.F g' ∨ g' ∈ L1) ∧ (g' ∈ f.M ∨ f.w0.heap.size ≤ g'))
 have hM' : ∀ g', g' ∈ M' ↔ g' < w.heap.size ∧ ¬ (f.F g' ∨ g' ∈ L1) ∧ (g' ∈ f.M ∨ f.w0.heap.size ≤ g') := fun g' => by simp only [M', List.mem_filter, List.mem_range, decide_eq_true_eq]
 let f2 : Fr := { w0 := w, M := M', N := f.N, H := f.H, F := fun g' => f.F g' ∨ g' ∈ L1, hF := fun g' hg => ⟨Or.elim hg (fun h1 => hr.F_lt h1) (fun h1 => (hN g' h1).1), fun hm => ((hM' g').1 hm).2.1 hg⟩, R := f.R, hK := f.hK, hR := hr.tabR (fun _ h => .inl h) (fun _ _ => rfl), hS := by rw [hS]; exact fun _ h => (List.not_mem_nil h).elim }
 have k2 : After f f2 := ⟨rfl, rfl, rfl, fun g' hg => .inl hg, hr.keep, fun g' hg => ((hM' g').1 hg).2.2, fun g' hg => by
  rcases hg with hg | hg
  ·exact .inl hg
  ·exact .inr (hN g' hg).2.2, fun hne => absurd hS hne⟩
 have hdsE := RDs.erase (F' := f2.F) (fun g' hg => .inl hg) ds 0 _ us L1 hds (fun g' hg => .inr hg)
 have hr4 : RepO f2 (fun i => i < nx) (put st x (.own id (.pt true (D.erases ds)))) a w ρ (fun t => if t = x then [g] else L t) := by
  refine ⟨hr.defers, hr.size, hr.hold, ⟨rfl, rfl, rfl, Nat.le_refl _, fun _ _ _ => rfl, Nat.le_refl _⟩, fun t => ?_, fun t => ?_, fun t u htu g' hg hgu => ?_, fun t g' hg => ?_, fun t i hi => ?_, fun t g' hg => ?_, hr.names⟩
  ·by_cases e : t = x
   ·subst e
    rw [put_same, if_pos rfl]
    simp only [SR, RD]
    exact ⟨e0, g, us, [], ty, ev, rfl, hb, hdsE⟩
   ·rw [put_other _ _ _ _ e, if_neg e]
    exact SR.same (fun g' hg => .inl hg) (fun _ _ => rfl) _ _ _ (hr.slots t) (fun _ _ => rfl) (fun _ _ => rfl)
  ·skip
   split
   ·simp
   ·exact hr.nodup t
  ·have back : ∀ t, g' ∈ (if t = x then [g] else L t) → g' ∈ L t := fun t ht => by
    split at ht
    ·rename_i e
     simp only [List.mem_singleton] at ht
     rw [e, eL, ht]; simp
    ·exact ht
   exact hr.disj t u htu g' (back t hg) (back u hgu)
  ·have back : g' ∈ L t := by
    split at hg
    ·rename_i e
     simp only [List.mem_singleton] at hg
     rw [e, eL, hg]; simp
    ·exact hg
   refine ⟨(hr.bound t g' back).1, fun hf => ?_⟩
   rcases hf with hf | hf
   ·exact (hr.bound t g' back).2 hf
   ·exact (hN g' hf).2.1 t hg
  ·by_cases e : t = x
   ·subst e
    rw [put_same] at hi
    simp only [AV.ids, List.mem_singleton] at hi
    subst hi
    exact hr.ids t i (by rw [hx]; simp [AV.ids])
   ·rw [put_other _ _ _ _ e] at hi; exact hr.ids t i hi
  ·have back : g' ∈ L t := by
    split at hg
    ·rename_i e
     simp only [List.mem_singleton] at hg
     rw [e, eL, hg]; simp
    ·exact hg
   refine .inl ((hM' g').2 ⟨(hr.bound t g' back).1, fun hf => ?_, hr.mine t g' back⟩)
   rcases hf with hf | hf
   ·exact (hr.bound t g' back).2 hf
   ·exact (hN g' hf).2.1 t hg
 exact Code.wp_mono (fun _ _ _ ⟨s, m, q, r⟩ => ⟨s, m, q, r.up k2⟩) (h f2 a w rfl ⟨f2, .refl f2, ρ, _, hr4⟩)
end
def V.erase : V → V
 | .one d => .one d.erase
 | .agg ds => .agg (D.erases ds)
def V.avc : V → AV
 | .one d => .c d
 | .agg ds => .agg (ds.map AV.c)
def frzAV : List V → AV
 | [] => .dead
 | [v] => v.avc
 | vs => .tup (vs.map V.avc)
def CallF (P : Program) (K : FuncId) (args : List Arg) (rs : List V) : Prop :=
 ∀ (w : World) (vs : List Value) (M : List Nat) (F : Nat → Prop), (∀ g, F g → g < w.heap.size ∧ g ∉ M) → ArgsR F w args vs M → M.Nodup → (∀ g ∈ M, g < w.heap.size) →
  Calls P K vs.toArray w fun e w' => ∃ us, e = .returned (retVal us) ∧ Keep w M w' ∧ VRs (fun g => g < w'.heap.size ∧ (F g ∨ g ∈ M ∨ w.heap.size ≤ g)) w' rs us []
def DoneF (P : Program) (fn : Func) (rs : List V) (e : Exit) (s : Nat → AV) (_ : Nat) : Prop :=
 (e = .normal ∨ e = .ret) ∧ ∃ s' rs', Ress P s fn.results.toList rs' s' ∧ rs'.map V.erase = rs
section
variable {P : Program} {n : NN} {nid nx : Nat} {st : Nat → AV} {f : Fr} {X : Nat → Prop} {a : Act} {w : World} {ρ : Nat → Rho} {L : Nat → List Nat} {M : List Nat}
theorem DoneF.ret {fn : Func} {rs rs' : List V} {s s' : Nat → AV} {k : Nat} (hr : Ress P s fn.results.toList rs' s') (h : rs'.map V.erase = rs) : DoneF P fn rs .ret s k := ⟨.inr rfl, s', rs', hr, h⟩
theorem DoneF.normal {fn : Func} {rs rs' : List V} {s s' : Nat → AV} {k : Nat} (hr : Ress P s fn.results.toList rs' s') (h : rs'.map V.erase = rs) : DoneF P fn rs .normal s k := ⟨.inl rfl, s', rs', hr, h⟩
theorem VRs.erase {F F' : Nat → Prop} {w : World} (hF : ∀ g, F g → F' g) : ∀ {vs : List V} {us : List Value} {L0 : List Nat}, VRs F w vs us L0 → (∀ g ∈ L0, F' g) → VRs F' w (vs.map V.erase) us []
 | [], _, _, h, _ => by simp only [VRs, List.map_nil] at h ⊢; exact ⟨h.1, trivial⟩
 | v :: vs, us, L0, h, hL => by
  simp only [VRs, List.map_cons] at h ⊢
  obtain ⟨u, us', L1, L2, rfl, rfl, h1, h2⟩ := h
  refine ⟨u, us', [], [], rfl, rfl, ?_, VRs.erase hF h2 (fun g hg => hL g (by simp [hg]))⟩
  cases v with
  | one d => obtain ⟨r, h⟩ := h1; exact ⟨r, RD.erase hF d r u L1 h (fun g hg => hL g (by simp [hg]))⟩
  | agg ds => obtain ⟨r, vs, e, h⟩ := h1; exact ⟨r, vs, e, RDs.erase hF ds 0 r vs L1 h (fun g hg => hL g (by simp [hg]))⟩
theorem SRs_cs {F : Nat → Prop} : ∀ (ds : List D) (k : Nat) (r : Rho) (us : List Value), RDs F w ds k r us [] → SRs F w ρ (ds.map AV.c) us []
 | [], _, _, _, h => by simpa only [RDs, SRs, List.map_nil] using h
 | d :: ds, k, r, us, h => by
  simp only [RDs] at h
  obtain ⟨u, us', L1, L2, rfl, e, h1, h2⟩ := h
  obtain ⟨rfl, rfl⟩ := List.append_eq_nil_iff.1 e.symm
  simp only [List.map_cons, SRs, SR]
  exact ⟨u, us', [], [], rfl, rfl, ⟨rfl, _, h1⟩, SRs_cs ds (k + 1) r us' h2⟩
theorem SR_avc {F : Nat → Prop} {v : V} {u : Value} (h : VR F w v u []) : SR F w ρ v.avc u [] := by
 cases v with
 | one d => obtain ⟨r, h⟩ := h; simp only [V.avc, SR]; exact ⟨trivial, r, h⟩
 | agg ds => obtain ⟨r, us, e, h⟩ := h; simp only [V.avc, SR]; exact ⟨us, e, SRs_cs ds 0 r us h⟩
theorem SRs_avcs {F : Nat → Prop} : ∀ (vs : List V) (us : List Value), VRs F w vs us [] → SRs F w ρ (vs.map V.avc) us []
 | [], _, h => by simpa only [VRs, SRs, List.map_nil] using h
 | v :: vs, us, h => by
  simp only [VRs] at h
  obtain ⟨u, us', L1, L2, rfl, e, h1, h2⟩ := h
  obtain ⟨rfl, rfl⟩ := List.append_eq_nil_iff.1 e.symm
  simp only [List.map_cons, SRs]
  exact ⟨u, us', [], [], rfl, rfl, SR_avc h1, SRs_avcs vs us' h2⟩
theorem SR_frz {F : Nat → Prop} {vs : List V} {us : List Value} (h : VRs F w vs us []) : SR F w ρ (frzAV vs) (retVal us) [] := by
 have hl := h.length
 match vs, us, h, hl with
 | [], [], h, _ => simp only [frzAV, SR]
 | [v], [u], h, _ =>
  simp only [VRs] at h
  obtain ⟨u', us', L1, L2, e1, e, h1, _⟩ := h
  obtain ⟨rfl, rfl⟩ := List.append_eq_nil_iff.1 e.symm
  simp only [List.cons.injEq] at e1
  rw [← e1.1] at h1
  exact SR_avc h1
 | v1 :: v2 :: vs, u1 :: u2 :: us, h, _ =>
  simp only [frzAV, SR, retVal]
  exact ⟨_, rfl, SRs_avcs _ _ h⟩
theorem idss_cs (ds : List D) : AV.idss (ds.map AV.c) = [] := by
 induction ds with
 | nil => rfl
 | cons d ds ih => simp [AV.idss, AV.ids, ih]
theorem idss_avcs (vs : List V) : AV.idss (vs.map V.avc) = [] := by
 induction vs with
 | nil => rfl
 | cons v vs ih => cases v <;> simp [AV.idss, AV.ids, V.avc, ih, idss_cs]
theorem frz_ids (vs : List V) : (frzAV vs).ids = [] := by
 match vs with
 | [] => rfl
 | [v] => cases v <;> simp [frzAV, V.avc, AV.ids, idss_cs]
 | v1 :: v2 :: vs => simp only [frzAV, AV.ids, idss_avcs]
theorem step_callF {d : Nat} {K : FuncId} {xs : Array Operand} {ts : Array TypeId} {args : List Arg} {rs : List V} {rd rd2 : List Nat} {up : List (Nat × AV)} {ty pos aft g} [FnOk P K] (hc : CallF P K args rs) (hm : Moves st xs.toList args rd up) (hr : ReadsF (puts st up) xs.toList args rd2) (hS : n.S = []) (hd : n d = true) :
  StepX P n ⟨some d, .call ⟨.value (.func K), xs, ts⟩, ty, pos, aft, g⟩ nid st (rd ++ rd2) (up ++ [(d, frzAV rs)]) := by
 intro X st' hs hX f a w hn hrep Kk Q hK
 obtain ⟨f', k, ρ, L, h⟩ := hrep
 have hn' : f'.N = n := k.N.trans hn
 obtain ⟨L', M1, h1, h2⟩ := h.toM.moves (hm.agree (st' := st') fun s hs' => hs s (List.mem_append_left _ hs'))
 rw [puts_append] at hK
 rw [List.nil_append] at h1
 have h3 := args_ofF h1 h2 (hr.agree (st' := puts st' up) fun s hs' => puts_agree _ _ (hs s (List.mem_append_right _ hs')))
 refine wp_of_enter (run_call a.eval rfl w) ?_
 have e : xs.map a.eval = (xs.toList.map a.eval).toArray := by apply Array.ext'; rw [Array.toList_map]
 rw [e]
 refine (hc w _ M1 f'.F (fun g hg => ⟨h1.rep.F_lt hg, fun hm => (h1.bound g hm).2 hg⟩) h3 h1.nd (fun g hg => (h1.bound g hg).1)).mono ?_
 rintro e w' ⟨us, rfl, hk, hv⟩
 refine ⟨_, rfl, ?_⟩
 have hdd : f'.N d = true := by rw [hn']; exact hd
 have hr1 : RepO f' X (put (puts st' up) d .dead) (a.put (some d) (retVal us)) w' ρ (fun t => if t = d then [] else L' t) := by
  refine h1.step (fun t => t = d) M1 X _ _ w' ρ _ (put_defers _ _ _) (put_size _ _ _) (hold_put _ hdd) hk (fun g hg => .inr hg) (fun _ _ => rfl) (fun t ht => ⟨put_other _ _ _ _ ht, tmp_put_other _ _ _ _ ht, by simp [ht]⟩) (fun t ht => ?_) (fun t u ht hu hne => absurd (ht.trans hu.symm) hne) (fun _ h => h) (fun t ht i hi => ?_)
  ·subst ht
   rw [put_same, if_pos rfl]
   exact ⟨by simp only [SR], List.nodup_nil, fun g hg => by simp at hg⟩
  ·subst ht
   rw [put_same] at hi
   simp [AV.ids] at hi
 obtain ⟨f2, k2, hF2, hr2⟩ := hr1.grow (by rw [hn']; exact hS) (fun g => g < w'.heap.size ∧ (g ∈ M1 ∨ w.heap.size ≤ g)) (fun g hg => ⟨hg.1, fun t ht => by
  split at ht
  ·simp at ht
  ·rcases hg.2 with h | h
   ·exact h1.disj t g ht h
   ·have := (h1.rep.bound t g ht).1; omega, by
  rcases hg.2 with h | h
  ·exact h1.mine g h
  ·exact .inr (Nat.le_trans h1.rep.keep.size h)⟩)
 have hv2 : VRs f2.F w' rs us [] := hv.same (fun g hg => (hF2 g).2 (by
  rcases hg.2 with h | h | h
  ·exact .inl h
  ·exact .inr ⟨hg.1, .inl h⟩
  ·exact .inr ⟨hg.1, .inr h⟩)) (fun _ _ => rfl) (fun _ _ => rfl)
 have hr3 := hr2.drop d (frzAV rs) [] (by rw [tmp_put_same _ _ _ (h1.rep.size _ hdd)]; exact SR_frz hv2) (by rw [frz_ids]; simp) (by simp) List.nodup_nil
 have e1 : put (put (puts st' up) d .dead) d (frzAV rs) = put (puts st' up) d (frzAV rs) := by
  funext t; unfold put; split <;> rfl
 rw [e1] at hr3
 exact hK _ _ ⟨f2, k.trans k2, ρ, _, hr3.weaken (fun i hi => .inl hi)⟩
theorem callF_of {K : FuncId} {fn : Func} {c : Code} {args : List Arg} {rs : List V} (m : Nat) (hf : P.funcs[K]? = some fn) (hb : fn.body = some c) (hm : fn.ntmps = m) (hh : heldOf 0 args = [])
  (h : WpA P ⟨fun d => decide (d < m), [], [], []⟩ c (initSt args) args.length (DoneF P fn rs)) : CallF P K args rs := by
 intro w vs M F hF hargs hnd hM
 have hn : ∀ d, decide (d < m) = true → d < fn.ntmps := fun d hd => by rw [hm]; exact of_decide_eq_true hd
 obtain ⟨Ls, e1, e2, eM, e4⟩ := hargs.split
 refine calls_of_wp hf hb ?_
 have htmp : ∀ t, tmp { tmps := vs.toArray ++ Array.replicate (fn.ntmps - vs.toArray.size) undef, defers := [] } t = vs.getD t undef := by
  intro t
  unfold tmp
  simp only [Array.getD_eq_getD_getElem?, List.getD_eq_getElem?_getD, Array.getElem?_append, List.size_toArray, List.getElem?_toArray, Array.getElem?_replicate]
  by_cases ht : t < vs.length
  ·simp [ht]
  ·simp only [ht, if_false]
   rw [List.getElem?_eq_none (by omega)]
   split <;> rfl
 let f : Fr := { w0 := w, M := M, N := ⟨fun d => decide (d < m), [], [], []⟩, H := [], F := F, hF := hF, hK := fun _ h => (List.not_mem_nil h).elim, hR := fun _ h => (List.not_mem_nil h).elim, hS := fun _ h => (List.not_mem_nil h).elim }
 have hL : ∀ t, (Ls.getD t []).Nodup ∧ ∀ g ∈ Ls.getD t [], g ∈ M := by
  intro t
  rw [List.getD_eq_getElem?_getD]
  cases ht : Ls[t]? with
  | none => simp
  | some Lt =>
   have hm := List.mem_of_getElem? ht
   rw [eM] at hnd ⊢
   unfold List.Nodup at hnd
   rw [List.pairwise_flatten] at hnd
   exact ⟨hnd.1 Lt hm, fun g hg => List.mem_flatten.2 ⟨Lt, hm, hg⟩⟩
 have hch : ∀ t, ∃ r : Rho, ∀ ρ : Nat → Rho, ρ t = r → SR F w ρ (initSt args t) (vs.getD t undef) (Ls.getD t []) := by
  intro t
  unfold initSt
  cases ht : args[t]? with
  | none =>
   have hlt : args.length ≤ t := by simpa using ht
   refine ⟨fun _ => undef, fun ρ _ => ?_⟩
   rw [List.getD_eq_getElem?_getD (l := Ls), List.getElem?_eq_none (by omega)]
   simp only [SR, Option.getD_none]
  | some x =>
   have hlt : t < args.length := (List.getElem?_eq_some_iff.1 ht).1
   have hu : vs[t]? = some (vs[t]'(by omega)) := List.getElem?_eq_getElem _
   have hl : Ls[t]? = some (Ls[t]'(by omega)) := List.getElem?_eq_getElem _
   have := (e4 t x _ _ ht hu hl).sr t
   rw [List.getD_eq_getElem?_getD, List.getD_eq_getElem?_getD, hu, hl]
   exact this
 obtain ⟨ρ, hρ⟩ := Classical.axiomOfChoice hch
 have hrep : Rep f (fun i => i < args.length) (initSt args) { tmps := vs.toArray ++ Array.replicate (fn.ntmps - vs.toArray.size) undef, defers := [] } w := by
  refine ⟨ρ, fun t => Ls.getD t [], rfl, fun d hd => ?_, fun q hq => (by cases hq), ⟨rfl, rfl, rfl, Nat.le_refl _, fun _ _ _ => rfl, Nat.le_refl _⟩, fun t => ?_, fun t => (hL t).1, fun t u htu g hg hgu => ?_, fun t g hg => ?_, fun t i hi => ?_, fun t g hg => .inl ((hL t).2 g hg), fun q hq => by cases hq⟩
  ·have := hn d hd
   simp
   omega
  ·rw [htmp t]; exact hρ t ρ rfl
  ·unfold List.Nodup at hnd
   rw [eM, List.pairwise_flatten] at hnd
   rw [List.getD_eq_getElem?_getD] at hg hgu
   cases ht : Ls[t]? with
   | none => simp [ht] at hg
   | some Lt =>
    cases hu : Ls[u]? with
    | none => simp [hu] at hgu
    | some Lu =>
     simp only [ht, hu, Option.getD_some] at hg hgu
     obtain ⟨h1, h2⟩ := List.getElem?_eq_some_iff.1 ht
     obtain ⟨h3, h4⟩ := List.getElem?_eq_some_iff.1 hu
     rcases Nat.lt_or_ge t u with hlt | hge
     ·have := List.pairwise_iff_getElem.1 hnd.2 t u h1 h3 hlt
      rw [h2, h4] at this
      exact this g hg g hgu rfl
     ·have := List.pairwise_iff_getElem.1 hnd.2 u t h3 h1 (by omega)
      rw [h2, h4] at this
      exact this g hgu g hg rfl
  ·have hm := (hL t).2 g hg
   exact ⟨hM g hm, fun hf => (hF g hf).2 hm⟩
  ·unfold initSt at hi
   cases ht : args[t]? with
   | none => simp [ht, AV.ids] at hi
   | some x =>
    simp only [ht] at hi
    rw [Arg.av_ids x t i hi]
    exact (List.getElem?_eq_some_iff.1 ht).1
 refine Code.wp_mono (fun e a' w' hq => ?_) (h f _ w rfl (.of hrep))
 obtain ⟨s1, nx', ⟨he, s', rs', hres, hrs⟩, ⟨f', kf, ρ', L', hr⟩⟩ := hq
 have hmine : ∀ g, (g ∈ f'.M ∨ f'.w0.heap.size ≤ g) → g ∈ M ∨ w.heap.size ≤ g := fun g hg => by
  rcases hg with h1 | h1
  ·exact kf.M g h1
  ·exact .inr (Nat.le_trans kf.keep.size h1)
 have fin : bodyPost P fn (fun e w' => ∃ us, e = .returned (retVal us) ∧ Keep w M w' ∧ VRs (fun g => g < w'.heap.size ∧ (F g ∨ g ∈ M ∨ w.heap.size ≤ g)) w' rs us []) .ret a' w' := by
  obtain ⟨L2, M1, us, hm, hrun, hv⟩ := hr.toM.ress hres
  rw [List.nil_append] at hm
  refine ⟨hr.defers, retVal us, run_results hrun, us, rfl, kf.keep.trans hr.keep (fun g hg hlt => by
   rcases hmine g (.inl hg) with h1 | h1
   ·exact h1
   ·have : f.w0 = w := rfl
    rw [this] at hlt
    omega), ?_⟩
  rw [← hrs]
  exact hv.erase (fun g hg => ⟨hr.F_lt hg, kf.new g hg⟩) (fun g hg => ⟨(hm.bound g hg).1, .inr (hmine g (hm.mine g hg))⟩)
 rcases he with rfl | rfl
 ·exact fin
 ·exact fin
end
end Go.Pv
namespace Go.Pv
open Go.RowKit
abbrev strV (b : List UInt8) : Value := .string ⟨b.toArray⟩
def byI (b : List UInt8) (i : Nat) : Int := ((b.getD i 0).toNat : Int)
class StrTy (P : Program) (T : TypeId) : Prop where
 out : P.underlying T = some .string
theorem str_at (b : List UInt8) (m : Nat) (h : m < b.length) : (⟨b.toArray⟩ : ByteArray)[m]? = some (b.getD m 0) := by
 have hs : (⟨b.toArray⟩ : ByteArray).size = b.length := by simp [ByteArray.size]
 rw [getElem?_pos (⟨b.toArray⟩ : ByteArray) m (by omega)]
 simp [List.getD, h, ByteArray.getElem_eq_getElem_data]
theorem str_cut (b : List UInt8) (m k : Nat) : (⟨b.toArray⟩ : ByteArray).extract m k = ⟨((b.take k).drop m).toArray⟩ := by
 ext1; simp [List.drop_take]
theorem str_list (b : List UInt8) : (⟨b.toArray⟩ : ByteArray).toList = b := by rw [ByteArray.toList_eq]
theorem str_size (b : List UInt8) : (⟨b.toArray⟩ : ByteArray).size = b.length := by simp [ByteArray.size]
section
variable {P : Program} {n : NN} {nid : Nat} {st : Nat → AV} {d : Nat} {T T' : TypeId} {x y z : Operand} {b c : List UInt8} {ty : TypeId} {pos : String} {aft : Array Edge} {g : Option (Nat × Bool)}
theorem step_str_len [hT : StrTy P T] (hx : Lit st x (strV b)) (hd : n d = true) : Step P n ⟨some d, .call ⟨.builtin .len, #[x], #[T]⟩, ty, pos, aft, g⟩ nid st (rdOf x) [(d, .c (.lit (.int .i64 b.length)))] := by
 have := step_pure (P := P) (n := n) (nid := nid) (st := st) (o := ⟨some d, .call ⟨.builtin .len, #[x], #[T]⟩, ty, pos, aft, g⟩) (d := d) (u := .int .i64 b.length) [(x, strV b)] rfl hd rfl (by simpa using hx) (fun ev w hev => by
  have e1 := hev (x, strV b) (by simp)
  simp only at e1
  simp [execOp, resolve, invoke, builtin, e1, Builtin.len_, run_underlying hT.out, goInt, str_size])
 simpa using this
theorem step_str_index [hT : StrTy P T] {k : IntKind} {i : Int} {m : Nat} (hx : Lit st x (strV b)) (hy : Lit st y (.int k i)) (he : i = (m : Int)) (hm : m < b.length) (hd : n d = true) : Step P n ⟨some d, .index T x y, ty, pos, aft, g⟩ nid st (rdOf x ++ rdOf y) [(d, .c (.lit (.int .u8 (byI b m))))] := by
 subst he
 have := step_pure (P := P) (n := n) (nid := nid) (st := st) (o := ⟨some d, .index T x y, ty, pos, aft, g⟩) (d := d) (u := .int .u8 (byI b m)) [(x, strV b), (y, .int k (m : Int))] rfl hd rfl (by simpa using ⟨hx, hy⟩) (fun ev w hev => by
  have e1 := hev (x, strV b) (by simp)
  have e2 := hev (y, .int k (m : Int)) (by simp)
  simp only at e1 e2
  simp [execOp, e1, e2, Instr.index, asIntOf, run_underlying hT.out, str_at b m hm, byI])
 simpa using this
theorem run_slice_str1 [hT : StrTy P T] (w : World) (l : Nat) (hl : l ≤ b.length) (k : IntKind) :
  (Instr.sliceAt T (strV b) (some (.int k (l : Int))) none none).run P w = .ok (strV (b.drop l)) w := by
 simp [Instr.sliceAt, run_underlying hT.out, Instr.slice, Instr.sliceBounds, Instr.sliceBound, asIntOf, str_size, str_cut, hl]
theorem run_slice_str2 [hT : StrTy P T] (w : World) (h : Nat) (hh : h ≤ b.length) (k' : IntKind) :
  (Instr.sliceAt T (strV b) none (some (.int k' (h : Int))) none).run P w = .ok (strV (b.take h)) w := by
 simp [Instr.sliceAt, run_underlying hT.out, Instr.slice, Instr.sliceBounds, Instr.sliceBound, asIntOf, str_size, str_cut, hh]
theorem step_str_from [hT : StrTy P T] {k : IntKind} {i : Int} {m : Nat} (hx : Lit st x (strV b)) (hy : Lit st y (.int k i)) (he : i = (m : Int)) (hm : m ≤ b.length) (hd : n d = true) : Step P n ⟨some d, .slice T x (some y) none none, ty, pos, aft, g⟩ nid st (rdOf x ++ rdOf y) [(d, .c (.lit (strV (b.drop m))))] := by
 subst he
 have := step_pure (P := P) (n := n) (nid := nid) (st := st) (o := ⟨some d, .slice T x (some y) none none, ty, pos, aft, g⟩) (d := d) (u := strV (b.drop m)) [(x, strV b), (y, .int k (m : Int))] rfl hd rfl (by simpa using ⟨hx, hy⟩) (fun ev w hev => by
  have e1 := hev (x, strV b) (by simp)
  have e2 := hev (y, .int k (m : Int)) (by simp)
  simp only at e1 e2
  simp only [execOp, e1, Option.map_some, Option.map_none, e2, Sem.run_bind, run_slice_str1 (P := P) (T := T) w m hm k]
  rfl)
 simpa using this
theorem step_str_to [hT : StrTy P T] {k : IntKind} {i : Int} {m : Nat} (hx : Lit st x (strV b)) (hy : Lit st y (.int k i)) (he : i = (m : Int)) (hm : m ≤ b.length) (hd : n d = true) : Step P n ⟨some d, .slice T x none (some y) none, ty, pos, aft, g⟩ nid st (rdOf x ++ rdOf y) [(d, .c (.lit (strV (b.take m))))] := by
 subst he
 have := step_pure (P := P) (n := n) (nid := nid) (st := st) (o := ⟨some d, .slice T x none (some y) none, ty, pos, aft, g⟩) (d := d) (u := strV (b.take m)) [(x, strV b), (y, .int k (m : Int))] rfl hd rfl (by simpa using ⟨hx, hy⟩) (fun ev w hev => by
  have e1 := hev (x, strV b) (by simp)
  have e2 := hev (y, .int k (m : Int)) (by simp)
  simp only at e1 e2
  simp only [execOp, e1, Option.map_some, Option.map_none, e2, Sem.run_bind, run_slice_str2 (P := P) (T := T) w m hm k]
  rfl)
 simpa using this
theorem eqGuard_str (op : BinOp) (w : World) (a b : List UInt8) : (eqGuard op T x y (strV a) (strV b)).run P w = .ok () w := by
 unfold eqGuard
 split <;> rfl
theorem step_str_eql (hx : Lit st x (strV b)) (hy : Lit st y (strV c)) (hd : n d = true) : Step P n ⟨some d, .binOp .eql T x y T', ty, pos, aft, g⟩ nid st (rdOf x ++ rdOf y) [(d, .c (.lit (.bool (decide (b = c)))))] := by
 have := step_pure (P := P) (n := n) (nid := nid) (st := st) (o := ⟨some d, .binOp .eql T x y T', ty, pos, aft, g⟩) (d := d) (u := .bool (decide (b = c))) [(x, strV b), (y, strV c)] rfl hd rfl (by simpa using ⟨hx, hy⟩) (fun ev w hev => by
  have e1 := hev (x, strV b) (by simp)
  have e2 := hev (y, strV c) (by simp)
  simp only at e1 e2
  simp [execOp, e1, e2, eqGuard_str, binOp, Op.stringOp, str_list]
  by_cases h : b = c <;> simp [h])
 simpa using this
theorem step_str_neq (hx : Lit st x (strV b)) (hy : Lit st y (strV c)) (hd : n d = true) : Step P n ⟨some d, .binOp .neq T x y T', ty, pos, aft, g⟩ nid st (rdOf x ++ rdOf y) [(d, .c (.lit (.bool (decide (b ≠ c)))))] := by
 have := step_pure (P := P) (n := n) (nid := nid) (st := st) (o := ⟨some d, .binOp .neq T x y T', ty, pos, aft, g⟩) (d := d) (u := .bool (decide (b ≠ c))) [(x, strV b), (y, strV c)] rfl hd rfl (by simpa using ⟨hx, hy⟩) (fun ev w hev => by
  have e1 := hev (x, strV b) (by simp)
  have e2 := hev (y, strV c) (by simp)
  simp only at e1 e2
  simp [execOp, e1, e2, eqGuard_str, binOp, Op.stringOp, str_list, bne]
  by_cases h : b = c <;> simp [h])
 simpa using this
theorem step_sub_u8 {i j : Int} (hx : Lit st x (.int .u8 i)) (hy : Lit st y (.int .u8 j)) (h : 0 ≤ i - j ∧ i - j ≤ 255) (hd : n d = true) : Step P n ⟨some d, .binOp .sub T x y T', ty, pos, aft, g⟩ nid st (rdOf x ++ rdOf y) [(d, .c (.lit (.int .u8 (i - j))))] := by
 have := step_sub (P := P) (n := n) (nid := nid) (T := T) (T' := T') (ty := ty) (pos := pos) (aft := aft) (g := g) hx hy hd
 have e : IntKind.u8.wrap (i - j) = i - j := by
  have e1 : IntKind.u8.bits = 8 := rfl
  have e2 : IntKind.u8.signed = false := rfl
  simp only [IntKind.wrap, e1, e2]
  simp
  omega
 rwa [e] at this
end
end Go.Pv
namespace Go.Proofs.YtpdfadnpfmlfgaaGreatDoor
set_option maxHeartbeats 20000000
open Go.Pv
open Go.ChangeShapes Go.WideShapes Go.ChangeAt Go.RowKit
attribute [local irreducible] RunU WpA Step CallG CallNG Done DoneN
instance fnOk59 : FnOk Tryz.prog 59 := ⟨_, Tryz.func59, rfl, by decide⟩
instance fnOk28 : FnOk Tryz.prog 28 := ⟨_, Tryz.func28, rfl, by decide⟩
instance fnOk37 : FnOk Tryz.prog 37 := ⟨_, Tryz.func37, rfl, by decide⟩
instance strTy9 : StrTy Tryz.prog 9 := ⟨Tryz.underlying9⟩
abbrev aS (b : List UInt8) : Arg := .sh (.one (.lit (strV b)))
abbrev rS (b : List UInt8) : V := .one (.lit (strV b))
abbrev vS (b : List UInt8) : AV := .c (.lit (strV b))
def dgN : List UInt8 → Nat
 | [] => 0
 | c :: b => if 48 ≤ (c.toNat : Int) ∧ (c.toNat : Int) ≤ 57 then dgN b + 1 else 0
def dgV (b : List UInt8) : Nat → Int
 | 0 => 0
 | k + 1 => 10 * dgV b k + (byI b k - 48)
theorem dgN_le : ∀ b, dgN b ≤ b.length
 | [] => by simp [dgN]
 | c :: b => by
  have := dgN_le b
  rw [dgN, List.length_cons]
  split <;> omega
theorem dgN_in : ∀ b i, i < dgN b → 48 ≤ byI b i ∧ byI b i ≤ 57
 | [], i, h => by simp [dgN] at h
 | c :: b, i, h => by
  rw [dgN] at h
  split at h
  ·rename_i hc
   cases i with
   | zero => simpa [byI] using hc
   | succ i =>
    have := dgN_in b i (by omega)
    simpa [byI] using this
  ·omega
theorem dgN_at : ∀ b, dgN b < b.length → ¬ (48 ≤ byI b (dgN b) ∧ byI b (dgN b) ≤ 57)
 | [], h => by simp [dgN] at h
 | c :: b, h => by
  have ih := dgN_at b
  by_cases hc : 48 ≤ (c.toNat : Int) ∧ (c.toNat : Int) ≤ 57
  ·rw [dgN, if_pos hc] at h ⊢
   have := ih (by simpa using h)
   simpa [byI] using this
  ·rw [dgN, if_neg hc]
   simpa [byI] using hc
theorem dgV_in (b : List UInt8) : ∀ k, k ≤ dgN b → 0 ≤ dgV b k ∧ dgV b k < 10 ^ k
 | 0, _ => by simp [dgV]
 | k + 1, h => by
  have ih := dgV_in b k (by omega)
  have hd := dgN_in b k (by omega)
  rw [dgV, Int.pow_succ]
  omega
theorem dgV_le (b : List UInt8) (k : Nat) (h : k ≤ dgN b) (h9 : k ≤ 9) : 0 ≤ dgV b k ∧ dgV b k < 1000000000 := by
 have h1 := dgV_in b k h
 have h2 : (10 : Int) ^ k ≤ 10 ^ 9 := by
  have : (10 : Nat) ^ k ≤ 10 ^ 9 := Nat.pow_le_pow_right (by omega) h9
  exact_mod_cast this
 have h3 : (10 : Int) ^ 9 = 1000000000 := by decide
 omega
def dgR (b : List UInt8) : Int × List UInt8 × Bool :=
 if 9 < dgN b ∨ dgN b = 0 ∨ (1 < dgN b ∧ byI b 0 = 48) then (0, [], false) else (dgV b (dgN b), b.drop (dgN b), true)
theorem digitsOf_c (b : List UInt8) (hb : b.length ≤ 1000000000000) : CallA Tryz.prog 59 [aS b] [rI (dgR b).1, rS (dgR b).2.1, rB (dgR b).2.2] [] := by
 have hle := dgN_le b
 have hin := dgN_in b
 have hat := dgN_at b
 have hv := dgV_le b
 have hs : ∀ j, dgV b (j + 1) = 10 * dgV b j + (byI b j - 48) := fun j => rfl
 refine cA_ _ Tryz.func59 rfl Tryz.ntmps59 sO_ ?_
 repeat' (first | (refine w2_ ?_ ?_ <;> intro _) | refine goA ?_ | (guard_target =~ IsG; first | refine psA ?_ | refine gdA ?_) | (refine neA ?_; first | refine nxA ?_ | refine Done.ret (.one rA_ (.one rA_ (.one rA_ .nil))) (.sh .nil) ?_ rfl) | fail)
 refine WpA.loop_slots (ι := Nat) (fun j => [(0, vS b), (5, .c (.lit (.int .i64 (dgV b j)))), (6, .c (.lit (.int .i64 (j : Int))))]) (fun j => j ≤ dgN b ∧ j ≤ 9) (fun j => 9 - j) 0 (by omega) ⟨rfl, rfl, rfl, trivial⟩ ?_
 intro j s nx hj
 have hvj := hv j (by omega) (by omega)
 have hsj := hs j
 by_cases hlt : j < dgN b
 ·have hinj := hin j hlt
  by_cases h9 : j = 9
  ·have e : dgR b = (0, [], false) := by unfold dgR; rw [if_pos (.inl (by omega))]
   rw [e]
   clear hv hs hin hat e
   repeat' (first | (refine w2_ ?_ ?_ <;> intro _) | (guard_target =~ IsN; first | refine RunU.cons (step_str_len rfl rfl) ?_ | refine RunU.cons (step_str_index rfl rfl (by first | with_reducible exact (Int.natCast_add_one _).symm | with_reducible exact idx_lit _ | exact rfl | exact (Int.toNat_of_nonneg (by omega)).symm) (by omega) rfl) ?_ | refine RunU.cons (step_sub_u8 rfl rfl (by omega) rfl) ?_) | refine goA ?_ | (guard_target =~ IsG; first | refine psA ?_ | refine RunU.doit rfl rfl (step_str_len rfl rfl) ?_ | refine RunU.doit rfl rfl (step_str_index rfl rfl (by first | with_reducible exact (Int.natCast_add_one _).symm | with_reducible exact idx_lit _ | exact rfl | exact (Int.toNat_of_nonneg (by omega)).symm) (by omega) rfl) ?_ | refine RunU.doit rfl rfl (step_sub_u8 rfl rfl (by omega) rfl) ?_ | refine gdA ?_) | (refine neA ?_; first | refine nxA ?_ | refine Done.ret (.one rA_ (.one rA_ (.one rA_ .nil))) (.sh .nil) ?_ rfl) | fail)
   all_goals first | rfl | (exfalso; omega)
  ·have hv1 := hv (j + 1) (by omega) (by omega)
   clear hv hs hin hat
   generalize hA : dgV b (j + 1) = A at *
   generalize dgV b j = B at *
   repeat' (first | (refine w2_ ?_ ?_ <;> intro _) | (guard_target =~ IsN; first | refine RunU.cons (step_str_len rfl rfl) ?_ | refine RunU.cons (step_str_index rfl rfl (by first | with_reducible exact (Int.natCast_add_one _).symm | with_reducible exact idx_lit _ | exact rfl | exact (Int.toNat_of_nonneg (by omega)).symm) (by omega) rfl) ?_ | refine RunU.cons (step_sub_u8 rfl rfl (by omega) rfl) ?_) | refine goA ?_ | (guard_target =~ IsG; first | refine psA ?_ | refine RunU.doit rfl rfl (step_str_len rfl rfl) ?_ | refine RunU.doit rfl rfl (step_str_index rfl rfl (by first | with_reducible exact (Int.natCast_add_one _).symm | with_reducible exact idx_lit _ | exact rfl | exact (Int.toNat_of_nonneg (by omega)).symm) (by omega) rfl) ?_ | refine RunU.doit rfl rfl (step_sub_u8 rfl rfl (by omega) rfl) ?_ | refine gdA ?_) | (refine neA ?_; first | refine nxA ?_ | refine Done.ret (.one rA_ (.one rA_ (.one rA_ .nil))) (.sh .nil) ?_ rfl) | fail)
   all_goals try (exfalso; omega)
   all_goals exact ⟨j + 1, by omega, ⟨rfl, int_eq (by omega), int_eq (by omega), trivial⟩, by omega⟩
 ·obtain rfl : j = dgN b := by omega
  clear hv hs hin
  by_cases hd : 9 < dgN b ∨ dgN b = 0 ∨ (1 < dgN b ∧ byI b 0 = 48)
  ·have e : dgR b = (0, [], false) := by unfold dgR; rw [if_pos hd]
   rw [e]
   clear e
   generalize dgN b = k at *
   generalize dgV b k = A at *
   repeat' (first | (refine w2_ ?_ ?_ <;> intro _) | (guard_target =~ IsN; first | refine RunU.cons (step_str_len rfl rfl) ?_ | refine RunU.cons (step_str_index rfl rfl (by first | with_reducible exact (Int.natCast_add_one _).symm | with_reducible exact idx_lit _ | exact rfl | exact (Int.toNat_of_nonneg (by omega)).symm) (by omega) rfl) ?_ | refine RunU.cons (step_str_from rfl rfl (by first | with_reducible exact (Int.natCast_add_one _).symm | with_reducible exact idx_lit _ | exact rfl | exact (Int.toNat_of_nonneg (by omega)).symm) (by omega) rfl) ?_) | refine goA ?_ | (guard_target =~ IsG; first | refine psA ?_ | refine RunU.doit rfl rfl (step_str_len rfl rfl) ?_ | refine RunU.doit rfl rfl (step_str_index rfl rfl (by first | with_reducible exact (Int.natCast_add_one _).symm | with_reducible exact idx_lit _ | exact rfl | exact (Int.toNat_of_nonneg (by omega)).symm) (by omega) rfl) ?_ | refine RunU.doit rfl rfl (step_str_from rfl rfl (by first | with_reducible exact (Int.natCast_add_one _).symm | with_reducible exact idx_lit _ | exact rfl | exact (Int.toNat_of_nonneg (by omega)).symm) (by omega) rfl) ?_ | refine gdA ?_) | (refine neA ?_; first | refine nxA ?_ | refine Done.ret (.one rA_ (.one rA_ (.one rA_ .nil))) (.sh .nil) ?_ rfl) | fail)
   all_goals first | rfl | (exfalso; omega)
  ·have e : dgR b = (dgV b (dgN b), b.drop (dgN b), true) := by unfold dgR; rw [if_neg hd]
   rw [e]
   clear e
   generalize dgN b = k at *
   generalize dgV b k = A at *
   repeat' (first | (refine w2_ ?_ ?_ <;> intro _) | (guard_target =~ IsN; first | refine RunU.cons (step_str_len rfl rfl) ?_ | refine RunU.cons (step_str_index rfl rfl (by first | with_reducible exact (Int.natCast_add_one _).symm | with_reducible exact idx_lit _ | exact rfl | exact (Int.toNat_of_nonneg (by omega)).symm) (by omega) rfl) ?_ | refine RunU.cons (step_str_from rfl rfl (by first | with_reducible exact (Int.natCast_add_one _).symm | with_reducible exact idx_lit _ | exact rfl | exact (Int.toNat_of_nonneg (by omega)).symm) (by omega) rfl) ?_) | refine goA ?_ | (guard_target =~ IsG; first | refine psA ?_ | refine RunU.doit rfl rfl (step_str_len rfl rfl) ?_ | refine RunU.doit rfl rfl (step_str_index rfl rfl (by first | with_reducible exact (Int.natCast_add_one _).symm | with_reducible exact idx_lit _ | exact rfl | exact (Int.toNat_of_nonneg (by omega)).symm) (by omega) rfl) ?_ | refine RunU.doit rfl rfl (step_str_from rfl rfl (by first | with_reducible exact (Int.natCast_add_one _).symm | with_reducible exact idx_lit _ | exact rfl | exact (Int.toNat_of_nonneg (by omega)).symm) (by omega) rfl) ?_ | refine gdA ?_) | (refine neA ?_; first | refine nxA ?_ | refine Done.ret (.one rA_ (.one rA_ (.one rA_ .nil))) (.sh .nil) ?_ rfl) | fail)
   all_goals first | rfl | (exfalso; omega)
def vlI (b : List UInt8) : Int := if (1 ≤ b.length ∧ b.length ≤ 9) ∧ ¬ (1 < b.length ∧ byI b 0 = 48) ∧ dgN b = b.length then dgV b b.length else -1
theorem vlI_in (b : List UInt8) : -1 ≤ vlI b ∧ vlI b < 1000000000 := by
 unfold vlI
 split
 ·rename_i h
  have := dgV_le b b.length (by omega) h.1.2
  omega
 ·omega
theorem dgR_vl (b : List UInt8) (h : 0 ≤ vlI b) : dgR b = (vlI b, [], true) := by
 unfold vlI at h ⊢
 split at h
 ·rename_i h1
  rw [if_pos h1]
  unfold dgR
  rw [if_neg (by omega), h1.2.2, List.drop_length]
 ·omega
theorem dgR_no (b : List UInt8) (h : ¬ 0 ≤ vlI b) : ¬ ((dgR b).2.2 = true ∧ (dgR b).2.1 = []) := by
 rintro ⟨h1, h2⟩
 apply h
 have hl := dgN_le b
 unfold dgR at h1 h2
 split at h1
 ·simp at h1
 ·rename_i h3
  rw [if_neg h3] at h2
  simp only at h2
  have := congrArg List.length h2
  simp only [List.length_drop, List.length_nil] at this
  have e : dgN b = b.length := by omega
  unfold vlI
  rw [if_pos (by omega)]
  exact (dgV_le b b.length (by omega) (by omega)).1
theorem numberOf_c (b : List UInt8) (hb : b.length ≤ 1000000000000) : CallA Tryz.prog 28 [aS b] [rI (dgR b).1, rB (decide (0 ≤ vlI b))] [] := by
 have hD := digitsOf_c b hb
 have e : decide (0 ≤ vlI b) = ((dgR b).2.2 && decide ((dgR b).2.1 = [])) := by
  by_cases h : 0 ≤ vlI b
  ·rw [dgR_vl b h]; simp [h]
  ·have := dgR_no b h
   rw [decide_eq_false h]
   simp only [not_and] at this
   cases h1 : (dgR b).2.2 with
   | false => rfl
   | true => simp [this h1]
 rw [e]
 clear e
 generalize dgR b = r at *
 obtain ⟨r1, r2, r3⟩ := r
 cases r3 with
 | true =>
  refine cA_ _ Tryz.func28 rfl Tryz.ntmps28 sO_ ?_
  repeat' (first | (refine w2_ ?_ ?_ <;> intro _) | (guard_target =~ CallN_; first | refine RunU.cons (sC_ (hD) (.sh .nil) (.sh wS_ .nil) rfl) ?_) | (guard_target =~ IsN; first | refine RunU.cons (step_str_eql rfl rfl rfl) ?_) | refine goA ?_ | (guard_target =~ IsG; first | refine psA ?_ | refine RunU.doit rfl rfl (step_str_eql rfl rfl rfl) ?_ | refine gdA ?_) | (refine neA ?_; first | refine nxA ?_ | refine Done.ret (.one rA_ (.one rA_ .nil)) (.sh .nil) ?_ rfl) | fail)
  all_goals first | rfl | (exfalso; omega)
 | false =>
  refine cA_ _ Tryz.func28 rfl Tryz.ntmps28 sO_ ?_
  repeat' (first | (refine w2_ ?_ ?_ <;> intro _) | (guard_target =~ CallN_; first | refine RunU.cons (sC_ (hD) (.sh .nil) (.sh wS_ .nil) rfl) ?_) | (guard_target =~ IsN; first | refine RunU.cons (step_str_eql rfl rfl rfl) ?_) | refine goA ?_ | (guard_target =~ IsG; first | refine psA ?_ | refine RunU.doit rfl rfl (step_str_eql rfl rfl rfl) ?_ | refine gdA ?_) | (refine neA ?_; first | refine nxA ?_ | refine Done.ret (.one rA_ (.one rA_ .nil)) (.sh .nil) ?_ rfl) | fail)
  all_goals first | rfl | (exfalso; omega)
theorem l01Value_c (b : List UInt8) (hb : b.length ≤ 1000000000000) : CallA Tryz.prog 37 [aS b] [rI (vlI b)] [] := by
 have hle := dgN_le b
 have hin := dgN_in b
 have hat := dgN_at b
 have hv := dgV_le b
 have hs : ∀ j, dgV b (j + 1) = 10 * dgV b j + (byI b j - 48) := fun j => rfl
 by_cases h1 : (1 ≤ b.length ∧ b.length ≤ 9) ∧ ¬ (1 < b.length ∧ byI b 0 = 48)
 ·have h2 : b.length = 1 ∨ (1 < b.length ∧ byI b 0 ≠ 48) := by omega
  rcases h2 with h2 | h2
  all_goals
   refine cA_ _ Tryz.func37 rfl Tryz.ntmps37 sO_ ?_
   repeat' (first | (refine w2_ ?_ ?_ <;> intro _) | (guard_target =~ IsN; first | refine RunU.cons (step_str_len rfl rfl) ?_ | refine RunU.cons (step_str_index rfl rfl (by first | with_reducible exact (Int.natCast_add_one _).symm | with_reducible exact idx_lit _ | exact rfl | exact (Int.toNat_of_nonneg (by omega)).symm) (by omega) rfl) ?_) | refine goA ?_ | (guard_target =~ IsG; first | refine psA ?_ | refine RunU.doit rfl rfl (step_str_len rfl rfl) ?_ | refine RunU.doit rfl rfl (step_str_index rfl rfl (by first | with_reducible exact (Int.natCast_add_one _).symm | with_reducible exact idx_lit _ | exact rfl | exact (Int.toNat_of_nonneg (by omega)).symm) (by omega) rfl) ?_ | refine gdA ?_) | (refine neA ?_; first | refine nxA ?_ | refine Done.ret (.one rA_ .nil) (.sh .nil) ?_ rfl) | fail)
   all_goals try (exfalso; omega)
   refine WpA.loop_slots (ι := Nat) (fun j => [(0, vS b), (3, .c (.lit (.int .i64 (dgV b j)))), (4, .c (.lit (.int .i64 (j : Int))))]) (fun j => j ≤ dgN b) (fun j => 9 - j) 0 (by omega) ⟨rfl, rfl, rfl, trivial⟩ ?_
   intro j s nx hj
   have hvj := hv j (by omega) (by omega)
   have hsj := hs j
   by_cases hlt : j < dgN b
   ·have hinj := hin j hlt
    have hv1 := hv (j + 1) (by omega) (by omega)
    clear hv hs hin hat
    generalize hA : dgV b (j + 1) = A at *
    generalize dgV b j = B at *
    repeat' (first | (refine w2_ ?_ ?_ <;> intro _) | (guard_target =~ IsN; first | refine RunU.cons (step_str_len rfl rfl) ?_ | refine RunU.cons (step_str_index rfl rfl (by first | with_reducible exact (Int.natCast_add_one _).symm | with_reducible exact idx_lit _ | exact rfl | exact (Int.toNat_of_nonneg (by omega)).symm) (by omega) rfl) ?_ | refine RunU.cons (step_sub_u8 rfl rfl (by omega) rfl) ?_) | refine goA ?_ | (guard_target =~ IsG; first | refine psA ?_ | refine RunU.doit rfl rfl (step_str_len rfl rfl) ?_ | refine RunU.doit rfl rfl (step_str_index rfl rfl (by first | with_reducible exact (Int.natCast_add_one _).symm | with_reducible exact idx_lit _ | exact rfl | exact (Int.toNat_of_nonneg (by omega)).symm) (by omega) rfl) ?_ | refine RunU.doit rfl rfl (step_sub_u8 rfl rfl (by omega) rfl) ?_ | refine gdA ?_) | (refine neA ?_; first | refine nxA ?_ | refine Done.ret (.one rA_ .nil) (.sh .nil) ?_ rfl) | fail)
    all_goals try (exfalso; omega)
    all_goals exact ⟨j + 1, by omega, ⟨rfl, int_eq (by omega), int_eq (by omega), trivial⟩, by omega⟩
   ·obtain rfl : j = dgN b := by omega
    have e : vlI b = if dgN b = b.length then dgV b (dgN b) else -1 := by
     unfold vlI
     by_cases e : dgN b = b.length
     ·rw [if_pos ⟨h1.1, h1.2, e⟩, if_pos e, e]
     ·rw [if_neg (fun h => e h.2.2), if_neg e]
    rw [e]
    clear hv hs hin e
    by_cases e : dgN b = b.length
    ·rw [if_pos e]
     generalize dgN b = k at *
     generalize dgV b k = A at *
     repeat' (first | (refine w2_ ?_ ?_ <;> intro _) | (guard_target =~ IsN; first | refine RunU.cons (step_str_len rfl rfl) ?_ | refine RunU.cons (step_str_index rfl rfl (by first | with_reducible exact (Int.natCast_add_one _).symm | with_reducible exact idx_lit _ | exact rfl | exact (Int.toNat_of_nonneg (by omega)).symm) (by omega) rfl) ?_) | refine goA ?_ | (guard_target =~ IsG; first | refine psA ?_ | refine RunU.doit rfl rfl (step_str_len rfl rfl) ?_ | refine RunU.doit rfl rfl (step_str_index rfl rfl (by first | with_reducible exact (Int.natCast_add_one _).symm | with_reducible exact idx_lit _ | exact rfl | exact (Int.toNat_of_nonneg (by omega)).symm) (by omega) rfl) ?_ | refine gdA ?_) | (refine neA ?_; first | refine nxA ?_ | refine Done.ret (.one rA_ .nil) (.sh .nil) ?_ rfl) | fail)
     all_goals first | rfl | (exfalso; omega)
    ·rw [if_neg e]
     have := hat (by omega)
     clear hat
     generalize dgN b = k at *
     generalize dgV b k = A at *
     repeat' (first | (refine w2_ ?_ ?_ <;> intro _) | (guard_target =~ IsN; first | refine RunU.cons (step_str_len rfl rfl) ?_ | refine RunU.cons (step_str_index rfl rfl (by first | with_reducible exact (Int.natCast_add_one _).symm | with_reducible exact idx_lit _ | exact rfl | exact (Int.toNat_of_nonneg (by omega)).symm) (by omega) rfl) ?_) | refine goA ?_ | (guard_target =~ IsG; first | refine psA ?_ | refine RunU.doit rfl rfl (step_str_len rfl rfl) ?_ | refine RunU.doit rfl rfl (step_str_index rfl rfl (by first | with_reducible exact (Int.natCast_add_one _).symm | with_reducible exact idx_lit _ | exact rfl | exact (Int.toNat_of_nonneg (by omega)).symm) (by omega) rfl) ?_ | refine gdA ?_) | (refine neA ?_; first | refine nxA ?_ | refine Done.ret (.one rA_ .nil) (.sh .nil) ?_ rfl) | fail)
     all_goals first | rfl | (exfalso; omega)
 ·have e : vlI b = -1 := by unfold vlI; rw [if_neg (fun h => h1 ⟨h.1, h.2.1⟩)]
  rw [e]
  clear e hv hs hin hat hle
  refine cA_ _ Tryz.func37 rfl Tryz.ntmps37 sO_ ?_
  repeat' (first | (refine w2_ ?_ ?_ <;> intro _) | (guard_target =~ IsN; first | refine RunU.cons (step_str_len rfl rfl) ?_ | refine RunU.cons (step_str_index rfl rfl (by first | with_reducible exact (Int.natCast_add_one _).symm | with_reducible exact idx_lit _ | exact rfl | exact (Int.toNat_of_nonneg (by omega)).symm) (by omega) rfl) ?_) | refine goA ?_ | (guard_target =~ IsG; first | refine psA ?_ | refine RunU.doit rfl rfl (step_str_len rfl rfl) ?_ | refine RunU.doit rfl rfl (step_str_index rfl rfl (by first | with_reducible exact (Int.natCast_add_one _).symm | with_reducible exact idx_lit _ | exact rfl | exact (Int.toNat_of_nonneg (by omega)).symm) (by omega) rfl) ?_ | refine gdA ?_) | (refine neA ?_; first | refine nxA ?_ | refine Done.ret (.one rA_ .nil) (.sh .nil) ?_ rfl) | fail)
  all_goals try (exfalso; omega)
  all_goals rfl
end Go.Proofs.YtpdfadnpfmlfgaaGreatDoor
namespace Go.Pv
open Go.RowKit
abbrev iv (l : List Int) : List Value := l.map (.int .i64)
theorem rds_ints {F : Nat → Prop} {w : World} : ∀ (r : List Int) (k : Nat) (ρ : Rho) (us : List Value) (L : List Nat), RDs F w (ints r) k ρ us L ↔ us = iv r ∧ L = []
 | [], k, ρ, us, L => by simp [RDs]
 | x :: r, k, ρ, us, L => by
  simp only [List.map_cons, RDs, RD]
  constructor
  ·rintro ⟨u, us', L1, L2, rfl, rfl, ⟨rfl, _, rfl⟩, h⟩
   obtain ⟨rfl, rfl⟩ := (rds_ints r _ _ _ _).1 h
   exact ⟨rfl, rfl⟩
  ·rintro ⟨rfl, rfl⟩
   exact ⟨_, _, [], [], rfl, rfl, ⟨rfl, rfl, rfl⟩, (rds_ints r _ _ _ _).2 ⟨rfl, rfl⟩⟩
section
variable {P : Program} {n : NN} {st : Nat → AV} {nx : Nat} {Q : Exit → (Nat → AV) → Nat → Prop}
end
end Go.Pv
namespace Go.Pv
open Go.RowKit
section
variable {P : Program} {n : NN} {nid nx : Nat} {st : Nat → AV} {f : Fr} {X : Nat → Prop} {a : Act} {w : World} {ρ : Nat → Rho} {L : Nat → List Nat} {Q : Exit → (Nat → AV) → Nat → Prop}
theorem WpA.reroot {c : Code} {x y id : Nat} {cs : List D} (hxy : (x == y) = false) (hx : st x = .own id (.pt true cs)) (hy : st y = .ptr x id [] 0)
  (h : WpA P n c (put (put st x (.ptr y id [] 0)) y (.own id (.pt true cs))) nx Q) : WpA P n c st nx Q := by
 have hxy : x ≠ y := by simpa using hxy
 refine WpA.of0 ?_
 intro f a w hn hrep
 obtain ⟨ρ, L, hr⟩ := hrep
 refine h f a w hn (.of ⟨ρ, fun t => if t = y then L x else if t = x then [] else L t, ?_⟩)
 have k1 := hr.slots x
 rw [hx] at k1
 simp only [SR] at k1
 have k2 := hr.slots y
 rw [hy] at k2
 simp only [SR] at k2
 obtain ⟨eLy, b, hb, e2⟩ := k2
 have k3 := k1
 simp only [RD] at k3
 obtain ⟨e1, g, us, L1, e, e3, _⟩ := k3
 have hb' : b = ⟨g, 0, none⟩ := by
  rw [← e1, e3] at hb
  simpa [baseOf] using hb.symm
 subst hb'
 have e4 : tmp a y = tmp a x := by rw [e2, e3, add_zero']
 have hsub : ∀ t g', g' ∈ (if t = y then L x else if t = x then [] else L t) → ∃ u, g' ∈ L u ∧ (t = y ∧ u = x ∨ t ≠ y ∧ t ≠ x ∧ u = t) := by
  intro t g' hg
  by_cases h1 : t = y
  ·rw [if_pos h1] at hg; exact ⟨x, hg, .inl ⟨h1, rfl⟩⟩
  ·rw [if_neg h1] at hg
   by_cases h2 : t = x
   ·rw [if_pos h2] at hg; simp at hg
   ·rw [if_neg h2] at hg; exact ⟨t, hg, .inr ⟨h1, h2, rfl⟩⟩
 refine ⟨hr.defers, hr.size, hr.hold, hr.keep, fun s => ?_, fun s => ?_, fun s u hsu g' hg hgu => ?_, fun s g' hg => ?_, fun s i hi => ?_, fun s g' hg => ?_, hr.names⟩
 ·by_cases h1 : s = y
  ·subst h1
   rw [put_same]
   simp only [if_true, SR]
   rw [e4]
   exact k1
  ·rw [put_other _ _ _ _ h1]
   by_cases h2 : s = x
   ·subst h2
    rw [put_same]
    simp only [if_neg h1, if_true, SR]
    exact ⟨trivial, ⟨g, 0, none⟩, hb, by rw [e3, add_zero']⟩
   ·rw [put_other _ _ _ _ h2]
    simp only [if_neg h1, if_neg h2]
    exact hr.slots s
 ·skip
  split
  ·exact hr.nodup x
  ·split
   ·exact List.nodup_nil
   ·exact hr.nodup s
 ·obtain ⟨s', k1, h1⟩ := hsub s g' hg
  obtain ⟨u', k2, h2⟩ := hsub u g' hgu
  refine hr.disj s' u' ?_ g' k1 k2
  rintro rfl
  rcases h1 with ⟨h1, h3⟩ | ⟨h1, h3, h4⟩ <;> rcases h2 with ⟨h2, h5⟩ | ⟨h2, h5, h6⟩
  ·exact hsu (h1.trans h2.symm)
  ·exact h5 (h6.symm.trans h3)
  ·exact h3 (h4.symm.trans h5)
  ·exact hsu (h4.symm.trans h6)
 ·obtain ⟨s', k1, _⟩ := hsub s g' hg
  exact hr.bound s' g' k1
 ·by_cases h1 : s = y
  ·subst h1
   rw [put_same] at hi
   simp only [AV.ids, List.mem_singleton] at hi
   subst hi
   exact hr.ids x i (by rw [hx]; simp [AV.ids])
  ·rw [put_other _ _ _ _ h1] at hi
   by_cases h2 : s = x
   ·subst h2
    rw [put_same] at hi
    simp only [AV.ids, List.mem_singleton] at hi
    subst hi
    exact hr.ids s i (by rw [hx]; simp [AV.ids])
   ·rw [put_other _ _ _ _ h2] at hi
    exact hr.ids s i hi
 ·obtain ⟨s', k1, _⟩ := hsub s g' hg
  exact hr.mine s' g' k1
def firstR : Code → Option Nat
 | .seq a _ => firstR a
 | .region _ ops _ => (ops[0]?).bind (·.dst)
 | _ => none
theorem WpA.rerootC {c : Code} (t x y : Nat) {id : Nat} {cs : List D} (ht : firstR c = some t) (hxy : (x == y) = false) (hx : st x = .own id (.pt true cs)) (hy : st y = .ptr x id [] 0)
  (h : WpA P n c (put (put st x (.ptr y id [] 0)) y (.own id (.pt true cs))) nx Q) : WpA P n c st nx Q := WpA.reroot hxy hx hy h
end
end Go.Pv
namespace Go.Pv
open Go.RowKit
section
variable {P : Program} {n : NN} {nid : Nat} {st : Nat → AV}
theorem hdr_ownP {x : AV} {id : Nat} {ds : List D} (h : hdr x = hdr (.own id (.pt true ds))) : ∃ ds', x = .own id (.pt true ds') ∧ ds'.map hdrD = ds.map hdrD := by
 by_cases hp : ∃ i c, x = .own i (.pt true c)
 ·obtain ⟨i, c, rfl⟩ := hp
  simp only [hdr, AV.own.injEq, D.pt.injEq, true_and] at h
  exact ⟨c, by rw [h.1], h.2⟩
 ·by_cases hx : ∃ i s c, x = .own i (.sl true s c)
  ·obtain ⟨i, s, c, rfl⟩ := hx
   simp [hdr] at h
  ·have e : hdr x = x := by
    unfold hdr
    split
    ·exact absurd ⟨_, _, _, rfl⟩ hx
    ·exact absurd ⟨_, _, rfl⟩ hp
    ·rfl
   rw [e] at h
   exact absurd ⟨_, _, h⟩ hp
theorem hdrD_sl {d : D} {sz : Nat} {cs : List D} (h : hdrD d = hdrD (.sl true sz cs)) : ∃ cs', d = .sl true sz cs' := by
 unfold hdrD at h
 split at h
 ·simp only [D.sl.injEq, true_and] at h
  exact ⟨_, by rw [h.1]⟩
 ·rename_i hx
  exact absurd h (hx _ _)
theorem stepW_field_root {d t id k o : Nat} {ds : List D} {T : TypeId} {ty pos aft g} [FieldTy P T k o] (h : st t = .own id (.pt true ds)) (hd : n d = true) :
  StepW P n ⟨some d, .fieldAddr T (.tmp t) k, ty, pos, aft, g⟩ nid st [t] [] [(d, .ptr t id [] o)] := by
 intro X st' _ hw hX
 obtain ⟨ds', h1, _⟩ := hdr_ownP (by rw [hw t (by simp), h])
 exact step_field_root (P := P) (n := n) (nid := nid) (st := st') (ty := ty) (pos := pos) (aft := aft) (g := g) h1 hd X st' (fun _ _ => rfl) hX
theorem stepW_load_als {d t x id off sz : Nat} {ds cs : List D} {T : TypeId} {ty pos aft g} [OneTy P T] (h : st t = .ptr x id [] off) (hx : st x = .own id (.pt true ds)) (hc : ds[off]? = some (.sl true sz cs)) (hd : n d = true) :
  StepW P n ⟨some d, .load T (.tmp t), ty, pos, aft, g⟩ nid st [x] [t] [(d, .als x id [off])] := by
 intro X st' hs hw hX
 obtain ⟨ds', h1, h2⟩ := hdr_ownP (by rw [hw x (by simp), hx])
 have h3 : ∃ cs', ds'[off]? = some (.sl true sz cs') := by
  have := congrArg (fun l => l[off]?) h2
  simp only [List.getElem?_map, hc, Option.map_some] at this
  cases e : ds'[off]? with
  | none => rw [e] at this; simp at this
  | some d' =>
   rw [e] at this
   simp only [Option.map_some, Option.some.injEq] at this
   obtain ⟨cs', rfl⟩ := hdrD_sl this
   exact ⟨cs', rfl⟩
 obtain ⟨cs', h3⟩ := h3
 exact step_load (P := P) (n := n) (nid := nid) (st := st') (ty := ty) (pos := pos) (aft := aft) (g := g) (path := []) ((hs t (by simp)).trans h) h1 rfl rfl h3 hd X st' (fun _ _ => rfl) hX
theorem hdr_set2 {x : AV} {id sz k : Nat} {d0 d : D} {cs : List D} (h : x = .own id (.pt true [d0, .sl true sz cs])) : hdr (.own id (.pt true [d0, .sl true sz (cs.set k d)])) = hdr x := by
 subst h; simp [hdr, hdrD]
theorem give_row1 {t x id j : Nat} {d0 : D} {A : List (List Int)} (ht : st t = .als x id [1, j]) (hx : st x = .own id (.pt true [d0, .sl true 1 (LL A)])) (hj : j < A.length) : Give st (.tmp t) [t, x] (.sl true 1 (ints (A.getD j []))) [(x, .own id (.pt true [d0, .sl true 1 ((LL A).set j .hole)]))] := by
 have h := Give.part (st := st) ht hx (nav_LL_at (path := [1]) (dd := .pt true [d0, .sl true 1 (LL A)]) rfl hj)
 have e : (D.pt true [d0, .sl true 1 (LL A)]).put [1, j] .hole = .pt true [d0, .sl true 1 ((LL A).set j .hole)] := by
  simp only [D.put, D.kids, D.withKids, LL, LL_get hj]
  simp [D.put, D.kids, D.withKids, LL_get hj]
 rw [e] at h
 exact h
theorem own_over2 {id k : Nat} {d0 : D} {A A' : List (List Int)} {m : List Int} (e : A.set k m = A') : AV.own id (.pt true [d0, .sl true 1 (D.over ((LL A).set k .hole) k [.sl true 1 (ints m)])]) = AV.own id (.pt true [d0, .sl true 1 (LL A')]) := by
 subst e
 simp [D.over, LL, List.map_set]
theorem WpA.freezeInC {nx : Nat} {Q : Exit → (Nat → AV) → Nat → Prop} {c : Code} (t x : Nat) {id sz : Nat} {cs ds : List D} (ds' : List D) (ht : firstR c = some t) (hS : n.S = []) (hx : st x = .own id (.pt true (.sl true sz cs :: ds))) (he : D.erases (.sl true sz cs :: ds) = ds') (h : WpA P n c (put st x (.own id (.pt true ds'))) nx Q) : WpA P n c st nx Q := by
 subst he
 exact WpA.freezeIn x hS hx h
end
end Go.Pv
namespace Go.Pv
open Go.RowKit
class ByRowTy (P : Program) (T : TypeId) : Prop where
 out : ∃ e, P.underlying T = some (.slice e) ∧ P.underlying e = some (.int .u8)
def byD (b : List UInt8) : List D := b.map fun u => .lit (.int .u8 (u.toNat : Int))
section
variable {P : Program} {n : NN} {nid : Nat} {st : Nat → AV} {d : Nat} {T T' S : TypeId} {x y z : Operand} {b c : List UInt8} {ty : TypeId} {pos : String} {aft : Array Edge} {g : Option (Nat × Bool)}
theorem str_join (b c : List UInt8) : (⟨b.toArray⟩ : ByteArray) ++ ⟨c.toArray⟩ = ⟨(b ++ c).toArray⟩ := by
 ext1; simp
theorem step_str_add (hx : Lit st x (strV b)) (hy : Lit st y (strV c)) (hl : b.length + c.length ≤ 9223372036854775807) (hd : n d = true) : Step P n ⟨some d, .binOp .add T x y T', ty, pos, aft, g⟩ nid st (rdOf x ++ rdOf y) [(d, .c (.lit (strV (b ++ c))))] := by
 have hm : IntKind.i64.max = 9223372036854775807 := rfl
 have hno : ¬ ((((⟨b.toArray⟩ : ByteArray).size + (⟨c.toArray⟩ : ByteArray).size : Nat) : Int) > IntKind.i64.max) := by
  rw [hm, str_size, str_size]; omega
 have := step_pure (P := P) (n := n) (nid := nid) (st := st) (o := ⟨some d, .binOp .add T x y T', ty, pos, aft, g⟩) (d := d) (u := strV (b ++ c)) [(x, strV b), (y, strV c)] rfl hd rfl (by simpa using ⟨hx, hy⟩) (fun ev w hev => by
  have e1 := hev (x, strV b) (by simp)
  have e2 := hev (y, strV c) (by simp)
  simp only at e1 e2
  simp only [execOp, e1, e2]
  simp [binOp, Op.stringOp, eqGuard]
  rw [if_neg (by simpa using hno)]
  simp [str_join])
 simpa using this
theorem fold_bytes (b : List UInt8) : ∀ s : ByteArray, (b.map fun u => (u.toNat : Int)).foldl (fun r n => r.push (UInt8.ofNat n.toNat)) s = s ++ ⟨b.toArray⟩ := by
 induction b with
 | nil => intro s; ext1; simp
 | cons u b ih =>
  intro s
  rw [List.map_cons, List.foldl_cons, ih]
  ext1
  simp
theorem byD_vals {F : Nat → Prop} {w : World} : ∀ (b : List UInt8) (k : Nat) (r : Rho) (us : List Value), RDs F w (byD b) k r us [] → us = (b.map fun u => (u.toNat : Int)).map (Value.int .u8)
 | [], k, r, us, h => by simp only [byD, List.map_nil, RDs] at h; simpa using h.1
 | u :: b, k, r, us, h => by
  simp only [byD, List.map_cons, RDs] at h
  obtain ⟨v, vs, L1, L2, rfl, e, h1, h2⟩ := h
  have e2 : L1 = [] ∧ L2 = [] := by simpa using e.symm
  rw [e2.2] at h2
  simp only [RD] at h1
  rw [h1.1, byD_vals b _ _ _ h2]
  rfl
theorem step_bytes_str [hS : ByRowTy P S] [hT : StrTy P T] {rd : List Nat} {cs : List D} (hv : View st x rd 1 cs) (hc : D.erases cs = byD b) (hd : n d = true) : Step P n ⟨some d, .convert S T x, ty, pos, aft, g⟩ nid st rd [(d, .c (.lit (strV b)))] := by
 intro X st' hs hX f a w hn hrep K Q hK
 obtain ⟨ρ, L, h⟩ := hrep
 subst hn
 obtain ⟨us, r, ⟨a0, n0, c0, e0, h1, h2, h3, h4⟩, h5⟩ := (hv.agree hs).read h
 obtain ⟨e, t1, t2⟩ := hS.out
 rw [hc] at h5
 have hus := byD_vals b 0 r us h5
 refine wV_ (u := strV b) (w' := w) ?_ (h.done_lit hK hd rfl)
 simp only [execOp, e0]
 rw [Sem.run_bind, run_convert_bytes_string w S T e a0 n0 c0 t1 t2 hT.out]
 have hlen : n0 = us.length := by omega
 cases a0 with
 | none =>
  have : us = [] := by
   cases us with
   | nil => rfl
   | cons u us => obtain ⟨b1, hb1, _⟩ := h4 (by simp); cases hb1
  rw [this] at hus
  have hb : b = [] := by cases b with | nil => rfl | cons u b => simp at hus
  subst hb
  simp [Conv.bytesToString]
  try rfl
 | some ad =>
  have hl : (loadCells ad n0).run P w = .ok ((b.map fun u => (u.toNat : Int)).map (Value.int .u8)).toArray w := by
   rw [← hus, hlen]
   refine run_loadCells_list w ad us fun j v hj => ?_
   by_cases hne : us = []
   ·rw [hne] at hj; simp at hj
   ·obtain ⟨b1, hb1, _, hb3⟩ := h4 hne
    cases hb1
    exact hb3 j v hj
  rw [run_bytesToString w ad n0 c0 _ hl, fold_bytes]
  simp
  try rfl
end
end Go.Pv
