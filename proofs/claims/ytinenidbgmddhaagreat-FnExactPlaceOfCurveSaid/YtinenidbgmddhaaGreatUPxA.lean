/- Calls that write into their first argument, keep its names, and leave memory that nobody writes any more. No condition. -/
import Derived.Test.YtinenidbgmddhaaGreatUPwX
import Derived.Test.YtinenidbgmddhaaGreatUPwF
import Derived.Test.YtinenidbgmddhaaGreatUPwZ
set_option linter.unusedVariables false
set_option linter.unusedSimpArgs false
namespace Go.Pv
open Go.RowKit
def CallH (P : Program) (K : FuncId) (args : List Arg) (rs : List V) : Prop :=
  ∀ (w : World) (vs : List Value) (M : List Nat) (F : Nat → Prop), (∀ g, F g → g < w.heap.size ∧ g ∉ M) → ArgsR F w args vs M → M.Nodup → (∀ g ∈ M, g < w.heap.size) →
    Calls P K vs.toArray w fun e w' => ∃ (F' : Nat → Prop) (us : List Value) (Lr : List Nat), e = .returned (retVal us) ∧ Keep w M w' ∧ (∀ g, F g → F' g) ∧ (∀ g, F' g → g < w'.heap.size ∧ (F g ∨ g ∈ M ∨ w.heap.size ≤ g)) ∧ VRs F' w' rs us Lr ∧ Lr.Nodup ∧ ∀ g ∈ Lr, g < w'.heap.size ∧ ¬ F' g ∧ (g ∈ M ∨ w.heap.size ≤ g)
section
variable {P : Program} {n : NN} {nid nx : Nat} {st : Nat → AV} {f : Fr} {X : Nat → Prop} {a : Act} {w : World} {ρ : Nat → Rho} {L : Nat → List Nat} {M : List Nat}
theorem RepM.later (h : RepM f X st a w ρ L M) (hS : f.N.S = []) {d : Nat} (hd : f.N d = true) (v : Value) (w' : World) (hk : Keep w M w') (F' : Nat → Prop) (hF : ∀ g, f.F g → F' g) (hF' : ∀ g, F' g → g < w'.heap.size ∧ (f.F g ∨ g ∈ M ∨ w.heap.size ≤ g))
    (av : AV) (id : Nat) (r : Rho) (hid : ¬ X id) (Lr : List Nat) (hv : SR F' w' (fun i => if i = id then r else ρ i) av v Lr) (hn : Lr.Nodup) (hL : ∀ g ∈ Lr, g < w'.heap.size ∧ ¬ F' g ∧ (g ∈ M ∨ w.heap.size ≤ g)) (hids : ∀ i ∈ av.ids, i = id) :
    RepX f (fun i => X i ∨ i = id) (put st d av) (a.put (some d) v) w' := by
  have h0 := h.rep
  let M' : List Nat := open Classical in (List.range w'.heap.size).filter fun g => decide (¬ F' g ∧ (g ∈ f.M ∨ f.w0.heap.size ≤ g))
  have hM' : ∀ g, g ∈ M' ↔ g < w'.heap.size ∧ ¬ F' g ∧ (g ∈ f.M ∨ f.w0.heap.size ≤ g) := fun g => by simp only [M', List.mem_filter, List.mem_range, decide_eq_true_eq]
  let f' : Fr := { w0 := w', M := M', N := f.N, H := f.H, F := F', hF := fun g hg => ⟨(hF' g hg).1, fun hm => ((hM' g).1 hm).2.1 hg⟩, R := f.R, hK := f.hK, hR := f.hR, hS := by rw [hS]; exact fun _ h => (List.not_mem_nil h).elim }
  have hsz := h0.keep.size
  have mine : ∀ g, (g ∈ M ∨ w.heap.size ≤ g) → g ∈ f.M ∨ f.w0.heap.size ≤ g := fun g hg => by
    rcases hg with h1 | h1
    · exact h.mine g h1
    · exact .inr (by omega)
  have hFs : ∀ g, f.F g → Same w w' g := fun g hg => hk.block g (h0.F_lt hg) (fun hm => (h.bound g hm).2 hg)
  have hLs : ∀ t, ∀ g ∈ L t, Same w w' g := fun t g hg => hk.block g (h0.bound t g hg).1 (h.disj t g hg)
  have hLF : ∀ t, ∀ g ∈ L t, ¬ F' g := fun t g hg hf => by
    rcases (hF' g hf).2 with h1 | h1 | h1
    · exact (h0.bound t g hg).2 h1
    · exact h.disj t g hg h1
    · have := (h0.bound t g hg).1; omega
  have hLL : ∀ t, ∀ g ∈ L t, g ∉ Lr := fun t g hg hr => by
    rcases (hL g hr).2.2 with h1 | h1
    · exact h.disj t g hg h1
    · have := (h0.bound t g hg).1; omega
  refine ⟨f', ⟨rfl, rfl, rfl, hF, h0.keep.trans hk (fun g hg _ => ?_), fun g hg => ((hM' g).1 hg).2.2, fun g hg => ?_, fun hne => absurd hS hne⟩, fun i => if i = id then r else ρ i, fun t => if t = d then Lr else L t, ?_⟩
  · rcases h.mine g hg with h1 | h1
    · exact h1
    · omega
  · rcases (hF' g hg).2 with h1 | h1
    · exact .inl h1
    · exact .inr (mine g h1)
  · refine ⟨(put_defers _ _ _).trans h0.defers, fun t ht => by rw [put_size]; exact h0.size t ht, fun q hq => ⟨(h0.hold q hq).1, (hold_put _ hd _ (h0.hold q hq).1).trans (h0.hold q hq).2⟩, ⟨rfl, rfl, rfl, Nat.le_refl _, fun _ _ _ => rfl, Nat.le_refl _⟩, fun t => ?_, fun t => ?_, fun t u htu g hg hgu => ?_, fun t g hg => ?_, fun t i hi => ?_, fun t g hg => ?_, fun q hq => ⟨.inl (h0.names q hq).1, by
      show (if q.1 = id then r else ρ q.1) = q.2
      rw [if_neg (by rintro rfl; exact hid (h0.names q hq).1)]; exact (h0.names q hq).2⟩⟩
    · by_cases e : t = d
      · subst e
        rw [put_same, if_pos rfl, tmp_put_same _ _ _ (h0.size _ hd)]
        exact hv
      · rw [put_other _ _ _ _ e, if_neg e, tmp_put_other _ _ _ _ e]
        exact SR.same hF hFs _ _ _ (h0.slots t) (hLs t) (fun i hi => if_neg (by rintro rfl; exact hid (h0.ids t _ hi)))
    · split
      · exact hn
      · exact h0.nodup t
    · split at hg <;> split at hgu
      · rename_i e1 e2; exact htu (e1.trans e2.symm)
      · exact hLL u g hgu hg
      · exact hLL t g hg hgu
      · exact h0.disj t u htu g hg hgu
    · split at hg
      · exact ⟨(hL g hg).1, (hL g hg).2.1⟩
      · exact ⟨Nat.lt_of_lt_of_le (h0.bound t g hg).1 hk.size, hLF t g hg⟩
    · by_cases e : t = d
      · subst e; rw [put_same] at hi; exact .inr (hids i hi)
      · rw [put_other _ _ _ _ e] at hi; exact .inl (h0.ids t i hi)
    · split at hg
      · exact .inl ((hM' g).2 ⟨(hL g hg).1, (hL g hg).2.1, mine g (hL g hg).2.2⟩)
      · exact .inl ((hM' g).2 ⟨Nat.lt_of_lt_of_le (h0.bound t g hg).1 hk.size, hLF t g hg, h0.mine t g hg⟩)
theorem step_callH {d : Nat} {K : FuncId} {xs : Array Operand} {ts : Array TypeId} {args : List Arg} {rs : List V} {rd rd2 : List Nat} {up : List (Nat × AV)} {ty pos aft g} [FnOk P K] (hc : CallH P K args rs) (hm : Moves st xs.toList args rd up) (hr : ReadsF (puts st up) xs.toList args rd2) (hS : n.S = []) (hd : n d = true) :
    StepX P n ⟨some d, .call ⟨.value (.func K), xs, ts⟩, ty, pos, aft, g⟩ nid st (rd ++ rd2) (up ++ [(d, resAV nid rs)]) := by
  intro X st' hs hX f a w hn hrep Kk Q hK
  obtain ⟨f', k, ρ, L, h⟩ := hrep
  have hn' : f'.N = n := k.N.trans hn
  obtain ⟨L', M1, h1, h2⟩ := h.toM.moves (hm.agree (st' := st') fun s hs' => hs s (List.mem_append_left _ hs'))
  rw [puts_append] at hK
  rw [List.nil_append] at h1
  have h3 := args_ofF h1 h2 (hr.agree (st' := puts st' up) fun s hs' => puts_agree _ _ (hs s (List.mem_append_right _ hs')))
  refine wp_of_enter (run_call a.eval rfl w) ?_
  have e : xs.map a.eval = (xs.toList.map a.eval).toArray := by apply Array.ext'; rw [Array.toList_map]
  rw [e]
  refine (hc w _ M1 f'.F (fun g hg => ⟨h1.rep.F_lt hg, fun hm => (h1.bound g hm).2 hg⟩) h3 h1.nd (fun g hg => (h1.bound g hg).1)).mono ?_
  rintro e w' ⟨F', us, Lr, rfl, hk, hF1, hF2, hv, hnd, hL⟩
  refine ⟨_, rfl, hK _ _ (RepX.up ?_ k)⟩
  have hdd : f'.N d = true := by rw [hn']; exact hd
  have hSS : f'.N.S = [] := by rw [hn']; exact hS
  have gen : ∀ av r, SR F' w' (fun i => if i = nid then r else ρ i) av (retVal us) Lr → (∀ i ∈ av.ids, i = nid) → RepX f' (fun i => X i ∨ i = nid) (put (puts st' up) d av) (a.put (some d) (retVal us)) w' := fun av r h4 h5 => h1.later hSS hdd _ w' hk F' hF1 hF2 av nid r hX Lr h4 hnd hL h5
  have hl := hv.length
  have r0 : Rho := fun _ => undef
  match rs, hv, hl with
  | [], hv, hl =>
    simp only [VRs] at hv
    obtain ⟨rfl, rfl⟩ := hv
    exact gen .dead r0 (by simp only [SR]) (by simp [AV.ids])
  | [.one (.lit u)], hv, hl =>
    simp only [VRs] at hv
    obtain ⟨u', us', L1, L2, rfl, rfl, ⟨r, h1⟩, rfl, rfl⟩ := hv
    simp only [RD] at h1
    obtain ⟨rfl, h2, rfl⟩ := h1
    exact gen (.c (.lit u')) r0 (by simp only [SR, RD, retVal]; exact ⟨rfl, fun _ => undef, trivial, h2, trivial⟩) (by simp [AV.ids])
  | [.one (.sl o sz cs)], hv, hl =>
    simp only [VRs] at hv
    obtain ⟨u', us', L1, L2, rfl, rfl, ⟨r, h1⟩, rfl, rfl⟩ := hv
    exact gen (.own nid (.sl o sz cs)) r (by simp only [SR, if_pos rfl]; simpa [retVal] using h1) (by simp [AV.ids])
  | [.one (.pt o cs)], hv, hl =>
    simp only [VRs] at hv
    obtain ⟨u', us', L1, L2, rfl, rfl, ⟨r, h1⟩, rfl, rfl⟩ := hv
    exact gen (.own nid (.pt o cs)) r (by simp only [SR, if_pos rfl]; simpa [retVal] using h1) (by simp [AV.ids])
  | [.one .hole], hv, hl =>
    simp only [VRs] at hv
    obtain ⟨u', us', L1, L2, rfl, rfl, ⟨r, h1⟩, rfl, rfl⟩ := hv
    exact gen (.own nid .hole) r (by simp only [SR, if_pos rfl]; simpa [retVal] using h1) (by simp [AV.ids])
  | [.one (.fn g cs)], hv, hl =>
    simp only [VRs] at hv
    obtain ⟨u', us', L1, L2, rfl, rfl, ⟨r, h1⟩, rfl, rfl⟩ := hv
    exact gen (.own nid (.fn g cs)) r (by simp only [SR, if_pos rfl]; simpa [retVal] using h1) (by simp [AV.ids])
  | [.agg ds], hv, hl =>
    simp only [VRs] at hv
    obtain ⟨u', us', L1, L2, rfl, rfl, h1, rfl, rfl⟩ := hv
    refine gen (.agg (ds.map AV.raw)) r0 ?_ (by simp only [AV.ids, idss_raws]; simp)
    have := SR_av (ρ := fun i => if i = nid then r0 else ρ i) h1
    simpa [V.av, retVal] using this
  | v1 :: v2 :: vs, hv, hl =>
    have e : resAV nid (v1 :: v2 :: vs) = .tup ((v1 :: v2 :: vs).map V.av) := rfl
    rw [e]
    refine gen _ r0 ?_ (by simp only [AV.ids, idss_avs]; simp)
    simp only [SR]
    refine ⟨us, ?_, SRs_avs _ us Lr hv⟩
    match us, hl with
    | [u], hl => simp at hl
    | [], hl => simp at hl
    | u1 :: u2 :: us', _ => rfl
theorem callH_of {K : FuncId} {fn : Func} {c : Code} {args : List Arg} {rs : List V} (m : Nat) (hf : P.funcs[K]? = some fn) (hb : fn.body = some c) (hm : fn.ntmps = m) (hh : heldOf 0 args = [])
    (h : WpA P ⟨fun d => decide (d < m), [], [], []⟩ c (initSt args) args.length (Done P fn args rs [])) : CallH P K args rs := by
  intro w vs M F hF hargs hnd hM
  have hn : ∀ d, decide (d < m) = true → d < fn.ntmps := fun d hd => by rw [hm]; exact of_decide_eq_true hd
  obtain ⟨Ls, e1, e2, eM, e4⟩ := hargs.split
  refine calls_of_wp hf hb ?_
  have htmp : ∀ t, tmp { tmps := vs.toArray ++ Array.replicate (fn.ntmps - vs.toArray.size) undef, defers := [] } t = vs.getD t undef := by
    intro t
    unfold tmp
    simp only [Array.getD_eq_getD_getElem?, List.getD_eq_getElem?_getD, Array.getElem?_append, List.size_toArray, List.getElem?_toArray, Array.getElem?_replicate]
    by_cases ht : t < vs.length
    · simp [ht]
    · simp only [ht, if_false]
      rw [List.getElem?_eq_none (by omega)]
      split <;> rfl
  let f : Fr := { w0 := w, M := M, N := ⟨fun d => decide (d < m), [], [], []⟩, H := [], F := F, hF := hF, hK := fun _ h => (List.not_mem_nil h).elim, hR := fun _ h => (List.not_mem_nil h).elim, hS := fun _ h => (List.not_mem_nil h).elim }
  have hL : ∀ t, (Ls.getD t []).Nodup ∧ ∀ g ∈ Ls.getD t [], g ∈ M := by
    intro t
    rw [List.getD_eq_getElem?_getD]
    cases ht : Ls[t]? with
    | none => simp
    | some Lt =>
      have hm := List.mem_of_getElem? ht
      rw [eM] at hnd ⊢
      unfold List.Nodup at hnd
      rw [List.pairwise_flatten] at hnd
      exact ⟨hnd.1 Lt hm, fun g hg => List.mem_flatten.2 ⟨Lt, hm, hg⟩⟩
  have hch : ∀ t, ∃ r : Rho, ∀ ρ : Nat → Rho, ρ t = r → SR F w ρ (initSt args t) (vs.getD t undef) (Ls.getD t []) := by
    intro t
    unfold initSt
    cases ht : args[t]? with
    | none =>
      have hlt : args.length ≤ t := by simpa using ht
      refine ⟨fun _ => undef, fun ρ _ => ?_⟩
      rw [List.getD_eq_getElem?_getD (l := Ls), List.getElem?_eq_none (by omega)]
      simp only [SR, Option.getD_none]
    | some x =>
      have hlt : t < args.length := (List.getElem?_eq_some_iff.1 ht).1
      have hu : vs[t]? = some (vs[t]'(by omega)) := List.getElem?_eq_getElem _
      have hl : Ls[t]? = some (Ls[t]'(by omega)) := List.getElem?_eq_getElem _
      have := (e4 t x _ _ ht hu hl).sr t
      rw [List.getD_eq_getElem?_getD, List.getD_eq_getElem?_getD, hu, hl]
      exact this
  obtain ⟨ρ, hρ⟩ := Classical.axiomOfChoice hch
  have hrep : Rep f (fun i => i < args.length) (initSt args) { tmps := vs.toArray ++ Array.replicate (fn.ntmps - vs.toArray.size) undef, defers := [] } w := by
    refine ⟨ρ, fun t => Ls.getD t [], rfl, fun d hd => ?_, fun q hq => (by cases hq), ⟨rfl, rfl, rfl, Nat.le_refl _, fun _ _ _ => rfl, Nat.le_refl _⟩, fun t => ?_, fun t => (hL t).1, fun t u htu g hg hgu => ?_, fun t g hg => ?_, fun t i hi => ?_, fun t g hg => .inl ((hL t).2 g hg), fun q hq => by cases hq⟩
    · have := hn d hd
      simp
      omega
    · rw [htmp t]; exact hρ t ρ rfl
    · unfold List.Nodup at hnd
      rw [eM, List.pairwise_flatten] at hnd
      rw [List.getD_eq_getElem?_getD] at hg hgu
      cases ht : Ls[t]? with
      | none => simp [ht] at hg
      | some Lt =>
        cases hu : Ls[u]? with
        | none => simp [hu] at hgu
        | some Lu =>
          simp only [ht, hu, Option.getD_some] at hg hgu
          obtain ⟨h1, h2⟩ := List.getElem?_eq_some_iff.1 ht
          obtain ⟨h3, h4⟩ := List.getElem?_eq_some_iff.1 hu
          rcases Nat.lt_or_ge t u with hlt | hge
          · have := List.pairwise_iff_getElem.1 hnd.2 t u h1 h3 hlt
            rw [h2, h4] at this
            exact this g hg g hgu rfl
          · have := List.pairwise_iff_getElem.1 hnd.2 u t h3 h1 (by omega)
            rw [h2, h4] at this
            exact this g hgu g hg rfl
    · have hm := (hL t).2 g hg
      exact ⟨hM g hm, fun hf => (hF g hf).2 hm⟩
    · unfold initSt at hi
      cases ht : args[t]? with
      | none => simp [ht, AV.ids] at hi
      | some x =>
        simp only [ht] at hi
        rw [Arg.av_ids x t i hi]
        exact (List.getElem?_eq_some_iff.1 ht).1
  refine Code.wp_mono (fun e a' w' hq => ?_) (h f _ w rfl (.of hrep))
  obtain ⟨s1, nx', ⟨he, s', hres, _⟩, ⟨f', kf, ρ', L', hr⟩⟩ := hq
  have hmine : ∀ g, (g ∈ f'.M ∨ f'.w0.heap.size ≤ g) → g ∈ M ∨ w.heap.size ≤ g := fun g hg => by
    rcases hg with h1 | h1
    · exact kf.M g h1
    · exact .inr (Nat.le_trans kf.keep.size h1)
  have fin : bodyPost P fn (fun e w' => ∃ (F' : Nat → Prop) (us : List Value) (Lr : List Nat), e = .returned (retVal us) ∧ Keep w M w' ∧ (∀ g, F g → F' g) ∧ (∀ g, F' g → g < w'.heap.size ∧ (F g ∨ g ∈ M ∨ w.heap.size ≤ g)) ∧ VRs F' w' rs us Lr ∧ Lr.Nodup ∧ ∀ g ∈ Lr, g < w'.heap.size ∧ ¬ F' g ∧ (g ∈ M ∨ w.heap.size ≤ g)) .ret a' w' := by
    obtain ⟨L2, M1, us, hm, hrun, hv⟩ := hr.toM.ress hres
    rw [List.nil_append] at hm
    refine ⟨hr.defers, retVal us, run_results hrun, f'.F, us, M1, rfl, kf.keep.trans hr.keep (fun g hg hlt => by
      rcases hmine g (.inl hg) with h1 | h1
      · exact h1
      · have : f.w0 = w := rfl
        rw [this] at hlt
        omega), kf.F, fun g hg => ⟨hr.F_lt hg, kf.new g hg⟩, hv, hm.nd, fun g hg => ⟨(hm.bound g hg).1, (hm.bound g hg).2, hmine g (hm.mine g hg)⟩⟩
  rcases he with rfl | rfl
  · exact fin
  · exact fin
end
end Go.Pv
namespace Go.Pv
open Go.RowKit
section
variable {P : Program} {n : NN} {nid nx : Nat} {st : Nat → AV} {f : Fr} {X : Nat → Prop} {a : Act} {w : World} {ρ : Nat → Rho} {L : Nat → List Nat} {M : List Nat}
def CallC2 (P : Program) (K : FuncId) (d : D) (sa : Nat) (ca : List D) (se : Nat) (ce : List D) (ks : List Value) (d' : D) (ce' : List D) : Prop :=
  ∀ (w : World) (v u0 u1 : Value) (M0 M1 : List Nat) (F : Nat → Prop) (r r0 r1 : Rho), (∀ g, F g → g < w.heap.size ∧ g ∉ M0 ++ M1) → RD F w d r v M0 → RD F w (.sl false sa ca) r0 u0 [] → RD F w (.sl true se ce) r1 u1 M1 → (M0 ++ M1).Nodup → (∀ g ∈ M0 ++ M1, g < w.heap.size) →
    Calls P K (v :: .agg #[u0, u1] :: ks).toArray w fun x w' => ∃ Lo L1 r' r1', x = .returned (retVal []) ∧ Keep w (M0 ++ M1) w' ∧ RD F w' d' r' v Lo ∧ RD F w' (.sl true se ce') r1' u1 L1 ∧ (Lo ++ L1).Nodup ∧ ∀ g ∈ Lo ++ L1, g < w'.heap.size ∧ (g ∈ M0 ++ M1 ∨ w.heap.size ≤ g)
abbrev nmAgg (b id sa : Nat) (ca : List D) : AV := .agg [.c (.sl false sa ca), .als b id [1]]
abbrev bxD (sa : Nat) (ca : List D) (se : Nat) (ce : List D) : D := .pt true [.sl false sa ca, .sl true se ce]
theorem step_box_nm {d t : Nat} {T : TypeId} {sa se : Nat} {ca ce : List D} {ty pos aft g} (h : st t = .agg [.raw (.sl false sa ca), .raw (.sl true se ce)]) (hd : n d = true) (hdt : (d == t) = false) :
    Step P n ⟨some d, .box T (.tmp t), ty, pos, aft, g⟩ nid st [t] [(t, nmAgg d nid sa ca), (d, .own nid (bxD sa ca se ce))] := by
  intro X st' hs hX f a w hn hrep K Q hK
  obtain ⟨ρ, L, hr⟩ := hrep
  subst hn
  have hdt : d ≠ t := by simpa using hdt
  have ht := hr.slots t
  rw [(hs t (by simp)).trans h] at ht
  simp only [SR, SRs] at ht
  obtain ⟨vs, e0, u0, vs', La, Lb, rfl, eL, ⟨r0, h0⟩, u1, vs2, Lc, Ld, rfl, rfl, ⟨r1, h1⟩, rfl, rfl⟩ := ht
  have hLa : La = [] := by simp only [RD] at h0; obtain ⟨e, _⟩ := h0; exact e
  subst hLa
  rw [List.nil_append, List.append_nil] at eL
  have hsame : ∀ g, g < w.heap.size → Same w (w.alloc (.cells #[u0, u1] T)) g := fun g hg => Below.heap_alloc w _ g hg
  have h0' : RD f.F (w.alloc (.cells #[u0, u1] T)) (.sl false sa ca) r0 u0 [] := RD.same (fun _ h => h) (fun g hg => hsame g (hr.F_lt hg)) _ _ _ [] h0 (by simp)
  have h1' : RD f.F (w.alloc (.cells #[u0, u1] T)) (.sl true se ce) r1 u1 (L t) := by rw [eL]; exact RD.same (fun _ h => h) (fun g hg => hsame g (hr.F_lt hg)) _ _ _ Lc h1 (fun g hg => hsame g (hr.bound t g (by rw [eL]; exact hg)).1)
  refine wp_of_value (u := .pointer (some ⟨w.heap.size, 0, none⟩)) (w' := w.alloc (.cells #[u0, u1] T)) ?_ (hK _ _ ⟨fun i => if i = nid then (fun π => match π with | [] => .pointer (some ⟨w.heap.size, 0, none⟩) | 0 :: q => r0 q | _ :: q => r1 q) else ρ i, fun s => if s = d then w.heap.size :: L t else if s = t then [] else L s, ?_⟩)
  · have e1 : a.eval (.tmp t) = _ := e0
    simp only [execOp, Instr.box, newVar, newRow, e1, Value.cells, Sem.run_bind, run_newObj, Result.andThen_ok, Sem.run_pure]
    rfl
  refine hr.step (fun s => s = d ∨ s = t) [] _ _ _ _ _ _ (put_defers _ _ _) (put_size _ _ _) (hold_put _ hd) (Keep.alloc w _) (by simp) (fun i hi => by rw [if_neg (by rintro rfl; exact hX hi)]) (fun s hs' => ?_) (fun s hs' => ?_) (fun s u hs' hu hne g hg hgu => ?_) (fun _ h => .inl h) (fun s hs' i hi => ?_)
  · have h1 : s ≠ d := fun e => hs' (.inl e)
    have h2 : s ≠ t := fun e => hs' (.inr e)
    exact ⟨by simp [puts, put, h1, h2], tmp_put_other _ _ _ _ h1, by simp [h1, h2]⟩
  · rcases hs' with rfl | rfl
    · simp only [puts, put_same, tmp_put_same _ _ _ (hr.size _ hd), if_true, SR, RD]
      refine ⟨⟨trivial, w.heap.size, [u0, u1], L t, T, rfl, rfl, alloc_new w _, ?_⟩, ?_, fun g hg => ?_⟩
      · simp only [RDs]
        exact ⟨u0, [u1], [], L t, rfl, rfl, RD.rho _ _ _ _ _ h0' (fun π => rfl), u1, [], L t, [], rfl, by simp, RD.rho _ _ _ _ _ h1' (fun π => rfl), rfl, rfl⟩
      · rw [List.nodup_cons]
        exact ⟨fun hg => by have := (hr.bound t _ hg).1; omega, hr.nodup t⟩
      · rw [List.mem_cons] at hg
        rcases hg with rfl | hg
        · exact ⟨by simp, .inr (Nat.le_refl _)⟩
        · exact ⟨by simp; have := (hr.bound t g hg).1; omega, .inl ⟨t, .inr rfl, hg⟩⟩
    · simp only [puts, put_other _ _ _ _ hdt.symm, put_same, if_neg hdt.symm, if_true, tmp_put_other _ _ _ _ hdt.symm]
      refine ⟨?_, List.nodup_nil, fun g hg => by simp at hg⟩
      simp only [SR, SRs]
      refine ⟨[u0, u1], e0, u0, [u1], [], [], rfl, rfl, ⟨rfl, r0, h0'⟩, u1, [], [], [], rfl, rfl, ⟨rfl, ?_⟩, rfl, rfl⟩
      simp only [if_true]
      simp only [RD] at h1
      exact h1.1
  · rcases hs' with rfl | rfl <;> rcases hu with rfl | rfl
    · exact hne rfl
    · simp [hdt.symm] at hgu
    · simp [hdt.symm] at hg
    · exact hne rfl
  · rcases hs' with rfl | rfl
    · simp only [puts, put_same, AV.ids, List.mem_singleton] at hi; exact .inr hi
    · simp only [puts, put_other _ _ _ _ hdt.symm, put_same, AV.ids, AV.idss, List.append_nil, List.nil_append, List.mem_singleton] at hi
      exact .inr hi
theorem step_callC2 {d0 t y q : Nat} {K : FuncId} {x : Operand} {xs : List Operand} {ts : Array TypeId} {d d' : D} {sa se : Nat} {ca ce ce' : List D} {ks : List Value} {xr id idy : Nat} {rd rd2 : List Nat} {ty pos aft g} [FnOk P K]
    (hc : CallC2 P K d sa ca se ce ks d' ce') (hi : IoAt st x xr id [] d d rd) (ht : st t = nmAgg y idy sa ca) (hy : st y = .own idy (bxD sa ca se ce)) (hq : st q = nmAgg y idy sa ca) (hks : Lits st xs rd2 ks)
    (hne : ((d0 == xr) || (d0 == y) || (d0 == q) || (xr == y) || (xr == q) || (y == q)) = false) (hd : n d0 = true) :
    Step P n ⟨some d0, .call ⟨.value (.func K), (x :: .tmp t :: xs).toArray, ts⟩, ty, pos, aft, g⟩ nid st (rd ++ (t :: y :: q :: rd2)) [(d0, .dead), (xr, .raw d'), (y, .own nid (bxD sa ca se ce')), (q, nmAgg y nid sa ca)] := by
  intro X st' hs hX f a w hn hrep Kk Q hK
  obtain ⟨ρ, L, h⟩ := hrep
  subst hn
  have hne' : d0 ≠ xr ∧ d0 ≠ y ∧ d0 ≠ q ∧ xr ≠ y ∧ xr ≠ q ∧ y ≠ q := by
    simp only [Bool.or_eq_false_iff, beq_eq_false_iff_ne, ne_eq] at hne
    exact ⟨hne.1.1.1.1.1, hne.1.1.1.1.2, hne.1.1.1.2, hne.1.1.2, hne.1.2, hne.2⟩
  obtain ⟨n1, n2, n3, n4, n5, n6⟩ := hne'
  have hi' := hi.agree (st' := st') fun s hs' => hs s (List.mem_append_left _ hs')
  have ht' := (hs t (by simp)).trans ht
  have hy' := (hs y (by simp)).trans hy
  have hq' := (hs q (by simp)).trans hq
  have hks' := (hks.agree (st' := st') fun s hs' => hs s (by simp [hs'])).eval h
  have hidX : X id := by
    have := h.ids xr
    rw [hi'.own.1] at this
    exact this id (by simp [AV.ids])
  have hne1 : id ≠ nid := by rintro rfl; exact hX hidX
  have hxt : t ≠ xr := by
    rintro rfl
    have := hi'.own.1
    rw [ht'] at this
    cases this
  have hyt : t ≠ y := by
    rintro rfl
    rw [hy'] at ht'
    cases ht'
  have hev : a.eval x = ρ id [] := hi'.eval h
  obtain ⟨L0, M0, h0, hv0⟩ := h.toM.lendN hi'
  rw [List.nil_append] at h0
  have h1 := h0.rep.slots t
  rw [put_other _ _ _ _ hxt, ht'] at h1
  simp only [SR, SRs] at h1
  obtain ⟨vs, ev, u0, vx, La, Lb, rfl, _, ⟨_, r0, hu0⟩, u1, vy, Lc, Ld, rfl, _, ⟨_, e5⟩, rfl, _⟩ := h1
  have hq1 := h0.rep.slots q
  rw [put_other _ _ _ _ n5.symm, hq'] at hq1
  simp only [SR, SRs] at hq1
  obtain ⟨vsq, evq, q0, vqx, Lqa, Lqb, rfl, _, ⟨_, rq0, hq0⟩, q1, vqy, Lqc, Lqd, rfl, _, ⟨_, eq5⟩, rfl, _⟩ := hq1
  have h2 := h0.rep.slots y
  rw [put_other _ _ _ _ n4.symm, hy'] at h2
  simp only [SR] at h2
  rw [RD] at h2
  obtain ⟨ey0, g0, us1, Lx, ety, ey1, eLy, hb, h2⟩ := h2
  simp only [RDs] at h2
  obtain ⟨y0, us2, Ly, Lz, rfl, rfl, h7, y1, us3, Le, Lq2, rfl, rfl, h8, rfl, rfl⟩ := h2
  have eLy0 : Ly = [] := by rw [RD] at h7; exact h7.1
  subst eLy0
  rw [List.nil_append, List.append_nil] at eLy
  have h8n : y1 = ((ρ idy).at (0 + 1)) [] := by rw [RD] at h8; exact h8.1
  have eyu : y1 = u1 := by rw [h8n, e5]; rfl
  have eyq : y1 = q1 := by rw [h8n, eq5]; rfl
  subst eyu
  have hndy := h0.rep.nodup y
  rw [eLy, List.nodup_cons] at hndy
  have hidy : ∀ i ∈ (AV.own idy (.pt true [.sl false sa ca, .hole])).ids, X i := by
    have := h.ids y
    rw [hy'] at this
    simpa [AV.ids] using this
  have h3 := h0.detach y (.own idy (.pt true [.sl false sa ca, .hole])) [g0] Le (by
    simp only [SR]
    rw [RD]
    refine ⟨ey0, g0, [y0, y1], [], ety, ey1, rfl, hb, ?_⟩
    simp only [RDs]
    refine ⟨y0, [y1], [], [], rfl, rfl, h7, y1, [], [], [], rfl, rfl, ?_, rfl, rfl⟩
    have := h8.one
    simp only [RD]
    exact ⟨h8n, this, trivial⟩) hidy (fun g hg => by rw [eLy]; rcases hg with hg | hg <;> simp_all) (by simp) hndy.2 (fun g hg => by
    rw [List.mem_singleton] at hg; subst hg; exact hndy.1)
  have hpz : d.put [] .hole = .hole := rfl
  rw [hev] at hv0
  rw [hpz] at h0 h3
  refine wp_of_enter (run_call a.eval rfl w) ?_
  have e : (x :: .tmp t :: xs).toArray.map a.eval = (ρ id [] :: .agg #[u0, y1] :: ks).toArray := by
    rw [← hks', ← hev, List.map_toArray, List.map_cons, List.map_cons]
    congr 3
  rw [e]
  refine (hc w (ρ id []) u0 y1 M0 Le f.F _ r0 _ (fun g hg => ⟨h3.rep.F_lt hg, fun hm => (h3.bound g hm).2 hg⟩) hv0 hu0 h8 h3.nd (fun g hg => (h3.bound g hg).1)).mono ?_
  rintro e w' ⟨Lo, L1, r', r1', rfl, hk, hout, hrow, hnd, hL⟩
  refine ⟨_, rfl, ?_⟩
  have hxs := h3.rep.slots xr
  rw [put_other _ _ _ _ n4, put_same] at hxs
  simp only [SR, RD] at hxs
  have hvx : ρ id [] = tmp a xr := hxs.1.symm
  have hFs : ∀ g, f.F g → Same w w' g := fun g hg => hk.block g (h3.rep.F_lt hg) (fun hm => (h3.bound g hm).2 hg)
  have hLx : ∀ s, ∀ g ∈ (if s = y then [g0] else L0 s), Same w w' g := fun s g hg => hk.block g (h3.rep.bound s g hg).1 (h3.disj s g hg)
  rw [hvx] at hout
  have hLnew : ∀ s, ∀ g ∈ Lo ++ L1, g ∉ (if s = y then [g0] else L0 s) := fun s g hg hg' => by
    rcases (hL g hg).2 with h | h
    · exact h3.disj s g hg' h
    · have := (h3.rep.bound s g hg').1; omega
  rw [List.nodup_append] at hnd
  refine hK _ _ ⟨fun i => if i = nid then (fun π => match π with | [] => ρ idy [] | 0 :: p => ρ idy (0 :: p) | _ :: p => r1' p) else ρ i, fun s => if s = xr then Lo else if s = y then g0 :: L1 else if s = q then [] else if s = d0 then [] else (if s = y then [g0] else L0 s), ?_⟩
  refine h3.step (fun s => s = xr ∨ s = y ∨ s = q ∨ s = d0) (M0 ++ Le) _ _ _ w' _ _ (put_defers _ _ _) (put_size _ _ _) (hold_put _ hd) hk (fun g hg => .inr hg) (fun i hi => by rw [if_neg (by rintro rfl; exact hX hi)]) (fun s hs' => ?_) (fun s hs' => ?_) (fun s u hs' hu hsu g hg hgu => ?_) (fun _ h => .inl h) (fun s hs' i hi => ?_)
  · simp only [not_or] at hs'
    obtain ⟨k1, k2, k3, k4⟩ := hs'
    refine ⟨?_, tmp_put_other _ _ _ _ k4, by simp [k1, k2, k3, k4]⟩
    simp only [puts]
    rw [put_other _ _ _ _ k3, put_other _ _ _ _ k2, put_other _ _ _ _ k1, put_other _ _ _ _ k4, put_other _ _ _ _ k2, put_other _ _ _ _ k1]
  · by_cases hsx : s = xr
    · subst hsx
      rw [if_pos rfl, tmp_put_other _ _ _ _ (Ne.symm n1)]
      simp only [puts, put_other _ _ _ _ n5, put_other _ _ _ _ n4, put_same, SR]
      exact ⟨⟨r', hout⟩, hnd.1, fun g hg => ⟨(hL g (by simp [hg])).1, .inr (hL g (by simp [hg])).2⟩⟩
    · rw [if_neg hsx]
      by_cases hsy : s = y
      · subst hsy
        rw [if_pos rfl, tmp_put_other _ _ _ _ (Ne.symm n2)]
        simp only [puts, put_other _ _ _ _ n6, put_same, SR, if_true]
        have hg0 : g0 ∈ (if s = s then [g0] else L0 s) := by simp
        have hg0b := (h3.rep.bound s g0 hg0).1
        refine ⟨?_, ?_, fun g hg => ?_⟩
        · rw [RD]
          refine ⟨ey0, g0, [y0, y1], L1, ety, ey1, rfl, (hLx s g0 hg0).trans hb, ?_⟩
          simp only [RDs]
          refine ⟨y0, [y1], [], L1, rfl, rfl, RD.rho _ _ _ _ _ (RD.same (fun _ h => h) hFs _ _ _ [] h7 (by simp)) (fun π => rfl), y1, [], L1, [], rfl, by simp, RD.rho _ _ _ _ _ hrow (fun π => rfl), rfl, rfl⟩
        · rw [List.nodup_cons]
          exact ⟨fun hg => hLnew s g0 (by simp [hg]) hg0, hnd.2.1⟩
        · rw [List.mem_cons] at hg
          rcases hg with rfl | hg
          · exact ⟨Nat.lt_of_lt_of_le hg0b hk.size, .inl ⟨s, .inr (.inl rfl), hg0⟩⟩
          · exact ⟨(hL g (by simp [hg])).1, .inr (hL g (by simp [hg])).2⟩
      · rw [if_neg hsy]
        by_cases hsq : s = q
        · subst hsq
          rw [if_pos rfl, tmp_put_other _ _ _ _ (Ne.symm n3)]
          simp only [puts, put_same]
          refine ⟨?_, List.nodup_nil, fun g hg => by simp at hg⟩
          simp only [SR, SRs]
          refine ⟨[q0, q1], evq, q0, [q1], [], [], rfl, rfl, ⟨rfl, rq0, RD.same (fun _ h => h) hFs _ _ _ [] hq0 (by simp)⟩, q1, [], [], [], rfl, rfl, ⟨rfl, ?_⟩, rfl, rfl⟩
          rw [← eyq]
          simp only [if_true]
          rw [RD] at hrow
          exact hrow.1
        · have hs0 : s = d0 := by rcases hs' with h | h | h | h <;> first | exact absurd h hsx | exact absurd h hsy | exact absurd h hsq | exact h
          subst hs0
          rw [if_neg hsq, if_pos rfl]
          simp only [puts]
          rw [put_other _ _ _ _ hsq, put_other _ _ _ _ hsy, put_other _ _ _ _ hsx, put_same]
          exact ⟨by simp only [SR], List.nodup_nil, fun g hg => by simp at hg⟩
  · have key : ∀ s, (s = xr ∨ s = y ∨ s = q ∨ s = d0) → ∀ g ∈ (if s = xr then Lo else if s = y then g0 :: L1 else if s = q then [] else if s = d0 then [] else (if s = y then [g0] else L0 s)), (s = xr ∧ (g ∈ L0 xr ∨ g ∈ Lo)) ∨ (s = y ∧ (g = g0 ∨ g ∈ L1)) := fun s hs' g hg => by
      by_cases k1 : s = xr
      · rw [if_pos k1] at hg
        exact .inl ⟨k1, .inr hg⟩
      · rw [if_neg k1] at hg
        by_cases k2 : s = y
        · rw [if_pos k2, List.mem_cons] at hg
          exact .inr ⟨k2, hg⟩
        · rw [if_neg k2] at hg
          rcases hs' with h | h | h | h
          · exact absurd h k1
          · exact absurd h k2
          · rw [if_pos h] at hg; simp at hg
          · rw [if_neg (show ¬ s = q by rw [h]; exact n3), if_pos h] at hg; simp at hg
    have hx0 : ∀ g ∈ L0 xr, g ∈ (if xr = y then [g0] else L0 xr) := fun g hg => by rw [if_neg n4]; exact hg
    have hg0 : g0 ∈ (if y = y then [g0] else L0 y) := by simp
    have k1 := key s hs' g hg
    have k2 := key u hu g hgu
    rcases k1 with ⟨e1, k1⟩ | ⟨e1, k1⟩ <;> rcases k2 with ⟨e2, k2⟩ | ⟨e2, k2⟩
    · exact hsu (e1.trans e2.symm)
    · rcases k1 with k1 | k1 <;> rcases k2 with k2 | k2
      · subst k2; exact h3.rep.disj xr y n4 g (hx0 g k1) hg0
      · exact hLnew xr g (by simp [k2]) (hx0 g k1)
      · subst k2; exact hLnew y g (by simp [k1]) hg0
      · exact hnd.2.2 g k1 g k2 rfl
    · rcases k2 with k2 | k2 <;> rcases k1 with k1 | k1
      · subst k1; exact h3.rep.disj xr y n4 g (hx0 g k2) hg0
      · exact hLnew xr g (by simp [k1]) (hx0 g k2)
      · subst k1; exact hLnew y g (by simp [k2]) hg0
      · exact hnd.2.2 g k2 g k1 rfl
    · exact hsu (e1.trans e2.symm)
  · by_cases hsq : s = q
    · subst hsq
      simp only [puts, put_same, AV.ids, AV.idss, List.append_nil, List.nil_append, List.mem_singleton] at hi
      exact .inr hi
    · simp only [puts] at hi
      rw [put_other _ _ _ _ hsq] at hi
      by_cases hsy : s = y
      · subst hsy
        rw [put_same] at hi
        simp only [AV.ids, List.mem_singleton] at hi
        exact .inr hi
      · rw [put_other _ _ _ _ hsy] at hi
        by_cases hsx : s = xr
        · subst hsx
          rw [put_same] at hi
          simp [AV.ids] at hi
        · have hs0 : s = d0 := by rcases hs' with h | h | h | h <;> first | exact absurd h hsx | exact absurd h hsy | exact absurd h hsq | exact h
          subst hs0
          rw [put_other _ _ _ _ hsx, put_same] at hi
          simp [AV.ids] at hi
def DoneC2 (P : Program) (fn : Func) (b : Nat) (d' : D) (sa : Nat) (ca : List D) (se : Nat) (ce' : List D) (x : Exit) (s : Nat → AV) (_ : Nat) : Prop :=
  (x = .normal ∨ x = .ret) ∧ Ress P s fn.results.toList [] s ∧ (∃ i0, s 0 = .own i0 d') ∧ ∃ id, s b = .own id (bxD sa ca se ce') ∧ s 1 = nmAgg b id sa ca
theorem DoneC2.ret {P : Program} {fn : Func} {b : Nat} {d' d1 : D} {sa : Nat} {ca : List D} {se : Nat} {ce' c1 : List D} {s : Nat → AV} {k id i0 : Nat} (hr : Ress P s fn.results.toList [] s) (h0 : s 0 = .own i0 d1) (hb : s b = .own id (bxD sa ca se c1)) (h1 : s 1 = nmAgg b id sa ca) (hd : d1 = d') (hc : c1 = ce') : DoneC2 P fn b d' sa ca se ce' .ret s k := by
  subst hd hc; exact ⟨.inr rfl, hr, ⟨i0, h0⟩, id, hb, h1⟩
theorem DoneC2.normal {P : Program} {fn : Func} {b : Nat} {d' d1 : D} {sa : Nat} {ca : List D} {se : Nat} {ce' c1 : List D} {s : Nat → AV} {k id i0 : Nat} (hr : Ress P s fn.results.toList [] s) (h0 : s 0 = .own i0 d1) (hb : s b = .own id (bxD sa ca se c1)) (h1 : s 1 = nmAgg b id sa ca) (hd : d1 = d') (hc : c1 = ce') : DoneC2 P fn b d' sa ca se ce' .normal s k := by
  subst hd hc; exact ⟨.inl rfl, hr, ⟨i0, h0⟩, id, hb, h1⟩
theorem callC2_of (b : Nat) {K : FuncId} {fn : Func} {c : Code} {d : D} {sa : Nat} {ca : List D} {se : Nat} {ce : List D} {ks : List Value} {d' : D} {ce' : List D} (m : Nat) (hf : P.funcs[K]? = some fn) (hb : fn.body = some c) (hm : fn.ntmps = m) (hks : ∀ k ∈ ks, k.oneCell' = true) (hb0 : (b == 0) = false)
    (h : WpA P ⟨fun t => decide (t < m) && !([0, 1].contains t), [], [], mark0⟩ c (initSt (.io d :: .mv (.agg [.sl false sa ca, .sl true se ce]) :: ks.map fun k => .sh (.one (.lit k)))) ((ks.map fun k => Arg.sh (.one (.lit k))).length + 1 + 1) (DoneC2 P fn b d' sa ca se ce')) : CallC2 P K d sa ca se ce ks d' ce' := by
  intro w v u0 u1 M0 M1 F r r0 r1 hF hv hv0 hv1 hnd hM
  have hargsK : ∀ ks : List Value, (∀ k ∈ ks, k.oneCell' = true) → ArgsR F w (ks.map fun k => Arg.sh (.one (.lit k))) ks [] := by
    intro ks
    induction ks with
    | nil => intro _; simp [ArgsR]
    | cons k ks ih =>
      intro hk
      simp only [List.map_cons, ArgsR, ArgR, VR]
      exact ⟨k, ks, [], [], rfl, rfl, ⟨rfl, fun _ => undef, by simp only [RD]; exact ⟨trivial, hk k (by simp), trivial⟩⟩, ih fun k' h => hk k' (by simp [h])⟩
  have hargs : ArgsR F w (.mv (.agg [.sl false sa ca, .sl true se ce]) :: ks.map fun k => Arg.sh (.one (.lit k))) (.agg #[u0, u1] :: ks) M1 := by
    simp only [ArgsR, ArgR, VR]
    refine ⟨_, _, M1, [], rfl, by simp, ⟨fun π => match π with | 0 :: q => r0 q | _ :: q => r1 q | [] => undef, [u0, u1], rfl, ?_⟩, hargsK ks hks⟩
    simp only [RDs]
    exact ⟨u0, [u1], [], M1, rfl, rfl, RD.rho _ _ _ _ _ hv0 (fun π => rfl), u1, [], M1, [], rfl, by simp, RD.rho _ _ _ _ _ hv1 (fun π => rfl), rfl, rfl⟩
  generalize hAr : (.mv (.agg [.sl false sa ca, .sl true se ce]) :: ks.map fun k => Arg.sh (.one (.lit k))) = args at *
  have hal : args.length = (ks.map fun k => Arg.sh (.one (.lit k))).length + 1 := by rw [← hAr]; simp
  rw [← hal] at h
  obtain ⟨vs, hvs⟩ : ∃ vs, vs = Value.agg #[u0, u1] :: ks := ⟨_, rfl⟩
  rw [← hvs] at hargs ⊢
  obtain ⟨Ls', e1', e2', eM', e4'⟩ := hargs.split
  generalize hM2 : M0 ++ M1 = M at *
  have eM : M = (M0 :: Ls').flatten := by rw [← hM2, eM']; simp
  refine calls_of_wp hf hb ?_
  have htmp : ∀ t, tmp { tmps := (v :: vs).toArray ++ Array.replicate (fn.ntmps - (v :: vs).toArray.size) undef, defers := [] } t = (v :: vs).getD t undef := by
    intro t
    generalize v :: vs = vs
    unfold tmp
    simp only [Array.getD_eq_getD_getElem?, List.getD_eq_getElem?_getD, Array.getElem?_append, List.size_toArray, List.getElem?_toArray, Array.getElem?_replicate]
    by_cases ht : t < vs.length
    · simp [ht]
    · simp only [ht, if_false]
      rw [List.getElem?_eq_none (by omega)]
      split <;> rfl
  let n : NN := ⟨fun t => decide (t < m) && !([0, 1].contains t), [], [], mark0⟩
  have hn0 : ∀ t, n t = true → t < fn.ntmps := fun t ht => by
    rw [hm]; simp only [n, Bool.and_eq_true, decide_eq_true_eq] at ht; exact ht.1
  have hSS : ∀ q ∈ mark0, ShRow F w q.1 1 (q.2.map (.int .i64)) := fun q hq => by
    rw [mark0, List.mem_singleton] at hq
    subst hq
    exact ⟨none, 0, 0, rfl, rfl, Nat.le_refl _, Nat.zero_le _, fun h => absurd rfl h⟩
  let f : Fr := { w0 := w, M := M, N := n, H := [(0, v), (1, .agg #[u0, u1])], F := F, hF := hF, R := [(0, r)], hK := fun _ h => (List.not_mem_nil h).elim, hR := fun _ h => (List.not_mem_nil h).elim, hS := hSS }
  let Ls := M0 :: Ls'
  have hL : ∀ t, (Ls.getD t []).Nodup ∧ ∀ g ∈ Ls.getD t [], g ∈ M := by
    intro t
    rw [List.getD_eq_getElem?_getD]
    cases ht : Ls[t]? with
    | none => simp
    | some Lt =>
      have hmm := List.mem_of_getElem? ht
      rw [eM] at hnd ⊢
      unfold List.Nodup at hnd
      rw [List.pairwise_flatten] at hnd
      exact ⟨hnd.1 Lt hmm, fun g hg => List.mem_flatten.2 ⟨Lt, hmm, hg⟩⟩
  have hch : ∀ t, ∃ r1 : Rho, (t = 0 → r1 = r) ∧ ∀ ρ : Nat → Rho, ρ t = r1 → SR F w ρ (initSt (.io d :: args) t) ((v :: vs).getD t undef) (Ls.getD t []) := by
    intro t
    cases t with
    | zero => exact ⟨r, fun _ => rfl, fun ρ e => by simp only [initSt, Arg.av, SR, List.getElem?_cons_zero]; rw [e]; exact hv⟩
    | succ t =>
      unfold initSt
      rw [List.getElem?_cons_succ]
      cases ht : args[t]? with
      | none =>
        have hlt : args.length ≤ t := by simpa using ht
        refine ⟨fun _ => undef, by simp, fun ρ _ => ?_⟩
        rw [List.getD_eq_getElem?_getD (l := Ls), List.getElem?_eq_none (by simp only [Ls, List.length_cons]; omega)]
        simp only [SR, Option.getD_none]
      | some x =>
        have hlt : t < args.length := (List.getElem?_eq_some_iff.1 ht).1
        have hu : vs[t]? = some (vs[t]'(by omega)) := List.getElem?_eq_getElem _
        have hl : Ls'[t]? = some (Ls'[t]'(by omega)) := List.getElem?_eq_getElem _
        obtain ⟨r1, hr1⟩ := (e4' t x _ _ ht hu hl).sr (t + 1)
        refine ⟨r1, by simp, fun ρ e => ?_⟩
        have := hr1 ρ e
        rw [List.getD_eq_getElem?_getD, List.getD_eq_getElem?_getD, List.getElem?_cons_succ, hu]
        simp only [Ls, List.getElem?_cons_succ, hl]
        exact this
  obtain ⟨ρ, hρ⟩ := Classical.axiomOfChoice hch
  have hrep : Rep f (fun i => i < args.length + 1) (initSt (.io d :: args)) { tmps := (v :: vs).toArray ++ Array.replicate (fn.ntmps - (v :: vs).toArray.size) undef, defers := [] } w := by
    refine ⟨ρ, fun t => Ls.getD t [], rfl, fun d hd => ?_, fun q hq => ?_, ⟨rfl, rfl, rfl, Nat.le_refl _, fun _ _ _ => rfl, Nat.le_refl _⟩, fun t => ?_, fun t => (hL t).1, fun t u htu g hg hgu => ?_, fun t g hg => ?_, fun t i hi => ?_, fun t g hg => .inl ((hL t).2 g hg), fun q hq => ?_⟩
    · have := hn0 d hd
      simp
      omega
    · have : q = (0, v) ∨ q = (1, .agg #[u0, u1]) := by simpa [f] using hq
      rcases this with rfl | rfl
      · exact ⟨by simp [f, n], by rw [htmp 0]; rfl⟩
      · exact ⟨by simp [f, n], by rw [htmp 1, hvs]; rfl⟩
    · rw [htmp t]; exact (hρ t).2 ρ rfl
    · have hnd2 := hnd
      unfold List.Nodup at hnd2
      rw [eM, List.pairwise_flatten] at hnd2
      rw [List.getD_eq_getElem?_getD] at hg hgu
      cases ht : Ls[t]? with
      | none => simp [ht] at hg
      | some Lt =>
        cases hu : Ls[u]? with
        | none => simp [hu] at hgu
        | some Lu =>
          simp only [ht, hu, Option.getD_some] at hg hgu
          obtain ⟨h1, h2⟩ := List.getElem?_eq_some_iff.1 ht
          obtain ⟨h3, h4⟩ := List.getElem?_eq_some_iff.1 hu
          rcases Nat.lt_or_ge t u with hlt | hge
          · have := List.pairwise_iff_getElem.1 hnd2.2 t u h1 h3 hlt
            rw [h2, h4] at this
            exact this g hg g hgu rfl
          · have := List.pairwise_iff_getElem.1 hnd2.2 u t h3 h1 (by omega)
            rw [h2, h4] at this
            exact this g hgu g hg rfl
    · have hm := (hL t).2 g hg
      exact ⟨hM g hm, fun hf => (hF g hf).2 hm⟩
    · unfold initSt at hi
      cases ht : (Arg.io d :: args)[t]? with
      | none => simp [ht, AV.ids] at hi
      | some x =>
        simp only [ht] at hi
        rw [Arg.av_ids x t i hi]
        have := (List.getElem?_eq_some_iff.1 ht).1
        simpa using this
    · have : q = (0, r) := by simpa [f] using hq
      subst this
      exact ⟨by show 0 < args.length + 1; omega, (hρ 0).1 rfl⟩
  refine Code.wp_mono (fun e a' w' hq => ?_) (h f _ w rfl (.of hrep))
  obtain ⟨s1, nx', ⟨he, hres, ⟨i0, h0⟩, id, hbb, h1⟩, ⟨f', kf, ρ', L', hr⟩⟩ := hq
  have hf' : f' = f := kf.still (by show mark0 ≠ []; simp [mark0])
  subst hf'
  have fin : bodyPost P fn (fun x w' => ∃ Lo L1 r' r1', x = .returned (retVal []) ∧ Keep w M w' ∧ RD F w' d' r' v Lo ∧ RD F w' (.sl true se ce') r1' u1 L1 ∧ (Lo ++ L1).Nodup ∧ ∀ g ∈ Lo ++ L1, g < w'.heap.size ∧ (g ∈ M ∨ w.heap.size ≤ g)) .ret a' w' := by
    obtain ⟨L2, M2, us, hm, hrun, hv2⟩ := hr.toM.ress hres
    simp only [VRs] at hv2
    obtain ⟨rfl, rfl⟩ := hv2
    have hsl := hr.slots 0
    rw [h0] at hsl
    simp only [SR] at hsl
    have hv00 : tmp a' 0 = v := (hr.hold (0, v) (by simp [f])).2
    have hv11 : tmp a' 1 = .agg #[u0, u1] := (hr.hold (1, .agg #[u0, u1]) (by simp [f])).2
    rw [hv00] at hsl
    have hs1 := hr.slots 1
    rw [h1, hv11] at hs1
    simp only [SR, SRs] at hs1
    obtain ⟨vs1, ev1, x0, vx, La, Lb, rfl, _, _, x1, vy, Lc, Ld, rfl, _, ⟨_, e5⟩, rfl, _⟩ := hs1
    have e6 : x1 = u1 := by
      have := congrArg (fun v : Value => match v with | .agg a => a.toList | _ => []) ev1
      simp at this
      exact this.2.symm
    have hsb := hr.slots b
    rw [hbb] at hsb
    simp only [SR, RD, RDs] at hsb
    obtain ⟨_, g0, us1, Lx, ety, _, eLb, _, y0, us2, Ly, Lz, rfl, rfl, _, y1, us3, Lq, Lq2, rfl, rfl, h8, rfl, rfl⟩ := hsb
    have h8c := h8
    have eLy : Ly = [] := by rename_i h7 _; exact h7.1
    subst eLy
    rw [List.nil_append, List.append_nil] at eLb
    obtain ⟨h8n, h8r⟩ := h8
    have ey : y1 = u1 := by rw [h8n, ← e6, e5]; rfl
    have hFs : ∀ g ∈ L' 0 ++ Lq, g < w'.heap.size ∧ (g ∈ M ∨ w.heap.size ≤ g) := fun g hg => by
      rw [List.mem_append] at hg
      rcases hg with hg | hg
      · exact ⟨(hr.bound 0 g hg).1, hr.mine 0 g hg⟩
      · have hg' : g ∈ L' b := by rw [eLb]; simp [hg]
        exact ⟨(hr.bound b g hg').1, hr.mine b g hg'⟩
    refine ⟨hr.defers, retVal [], run_results hrun, L' 0, Lq, ρ' i0, (ρ' id).at 1, rfl, hr.keep, hsl, ?_, ?_, hFs⟩
    · rw [← ey]
      simp only [RD]
      exact h8c
    · rw [List.nodup_append]
      have hb0 : b ≠ 0 := by simpa using hb0
      have hndb := hr.nodup b
      rw [eLb, List.nodup_cons] at hndb
      exact ⟨hr.nodup 0, hndb.2, fun g hg g' hg' e => by subst e; exact hr.disj 0 b (Ne.symm hb0) g hg (by rw [eLb]; simp [hg'])⟩
  rcases he with rfl | rfl
  · exact fin
  · exact fin
theorem WpA.viewC {Q : Exit → (Nat → AV) → Nat → Prop} {c : Code} (t x : Nat) {id : Nat} {d0 e : D} {path : List Nat} (d' : D) (ht : firstR c = some t) (hx : st x = .own id (d0.put path e)) (hd : d0.put path e = d') (h : WpA P n c (put st x (.own id d')) nx Q) : WpA P n c st nx Q := by
  have e1 : put st x (.own id d') = st := by
    funext s
    unfold put
    split
    · rename_i h1; rw [h1, hx, hd]
    · rfl
  rwa [e1] at h
end
end Go.Pv
namespace Go.Pv
open Go.RowKit
section
variable {P : Program} {n : NN} {nid nx : Nat} {st : Nat → AV} {f : Fr} {X : Nat → Prop} {a : Act} {w : World} {ρ : Nat → Rho} {L : Nat → List Nat} {M : List Nat}
theorem WpA.freezeIn1 {Q : Exit → (Nat → AV) → Nat → Prop} {c : Code} (x : Nat) {id : Nat} {c0 c1 : D} {cs : List D} (hS : n.S = []) (hx : st x = .own id (.pt true (c0 :: c1 :: cs))) (h : WpA P n c (put st x (.own id (.pt true (c0 :: c1.erase :: cs)))) nx Q) : WpA P n c st nx Q := by
  refine WpA.of0 ?_
  intro f a w hn ⟨ρ, L, hr⟩
  subst hn
  have hsl := hr.slots x
  rw [hx] at hsl
  simp only [SR] at hsl
  rw [RD] at hsl
  obtain ⟨e0, g, us, L1, ty, ev, eL, hb, hds⟩ := hsl
  rw [RDs] at hds
  obtain ⟨u0, us1, La, Lr, rfl, rfl, h0, hds⟩ := hds
  rw [RDs] at hds
  obtain ⟨u1, us2, Lb, Lc, rfl, rfl, h1, h2⟩ := hds
  have hnd := hr.nodup x
  rw [eL] at hnd
  simp only [List.nodup_cons, List.nodup_append, List.mem_append] at hnd
  have hL1 : ∀ g', g' ∈ Lb → g' ∈ L x := fun g' hg => by rw [eL]; simp [hg]
  have sub : ∀ t g', g' ∈ (if t = x then g :: (La ++ Lc) else L t) → g' ∈ L t := fun t g' ht => by
    split at ht
    · rename_i e
      rw [e, eL]
      simp only [List.mem_cons, List.mem_append] at ht ⊢
      grind
    · exact ht
  have hN : ∀ g', g' ∈ Lb → g' < w.heap.size ∧ (∀ t, g' ∉ (if t = x then g :: (La ++ Lc) else L t)) ∧ (g' ∈ f.M ∨ f.w0.heap.size ≤ g') := fun g' hg => ⟨(hr.bound x g' (hL1 g' hg)).1, fun t ht => by
    split at ht
    · simp only [List.mem_cons, List.mem_append] at ht
      grind
    · rename_i e
      exact hr.disj t x e g' ht (hL1 g' hg), hr.mine x g' (hL1 g' hg)⟩
  let M' : List Nat := open Classical in (List.range w.heap.size).filter fun g' => decide (¬ (f.F g' ∨ g' ∈ Lb) ∧ (g' ∈ f.M ∨ f.w0.heap.size ≤ g'))
  have hM' : ∀ g', g' ∈ M' ↔ g' < w.heap.size ∧ ¬ (f.F g' ∨ g' ∈ Lb) ∧ (g' ∈ f.M ∨ f.w0.heap.size ≤ g') := fun g' => by simp only [M', List.mem_filter, List.mem_range, decide_eq_true_eq]
  let f2 : Fr := { w0 := w, M := M', N := f.N, H := f.H, F := fun g' => f.F g' ∨ g' ∈ Lb, hF := fun g' hg => ⟨Or.elim hg (fun h1 => hr.F_lt h1) (fun h1 => (hN g' h1).1), fun hm => ((hM' g').1 hm).2.1 hg⟩, R := f.R, hK := f.hK, hR := f.hR, hS := by rw [hS]; exact fun _ h => (List.not_mem_nil h).elim }
  have k2 : After f f2 := ⟨rfl, rfl, rfl, fun g' hg => .inl hg, hr.keep, fun g' hg => ((hM' g').1 hg).2.2, fun g' hg => by
    rcases hg with hg | hg
    · exact .inl hg
    · exact .inr (hN g' hg).2.2, fun hne => absurd hS hne⟩
  have hF2 : ∀ g', f.F g' → f2.F g' := fun g' hg => .inl hg
  have hr4 : RepO f2 (fun i => i < nx) (put st x (.own id (.pt true (c0 :: c1.erase :: cs)))) a w ρ (fun t => if t = x then g :: (La ++ Lc) else L t) := by
    refine ⟨hr.defers, hr.size, hr.hold, ⟨rfl, rfl, rfl, Nat.le_refl _, fun _ _ _ => rfl, Nat.le_refl _⟩, fun t => ?_, fun t => ?_, fun t u htu g' hg hgu => ?_, fun t g' hg => ?_, fun t i hi => ?_, fun t g' hg => ?_, hr.names⟩
    · by_cases e : t = x
      · subst e
        rw [put_same, if_pos rfl]
        simp only [SR]
        rw [RD]
        refine ⟨e0, g, u0 :: u1 :: us2, La ++ Lc, ty, ev, rfl, hb, ?_⟩
        rw [RDs]
        refine ⟨u0, u1 :: us2, La, Lc, rfl, rfl, RD.same hF2 (fun _ _ => rfl) _ _ _ _ h0 (fun _ _ => rfl), ?_⟩
        rw [RDs]
        exact ⟨u1, us2, [], Lc, rfl, rfl, RD.erase hF2 _ _ _ _ h1 (fun g' hg => .inr hg), RDs.same hF2 (fun _ _ => rfl) _ _ _ _ _ h2 (fun _ _ => rfl)⟩
      · rw [put_other _ _ _ _ e, if_neg e]
        exact SR.same hF2 (fun _ _ => rfl) _ _ _ (hr.slots t) (fun _ _ => rfl) (fun _ _ => rfl)
    · split
      · simp only [List.nodup_cons, List.nodup_append, List.mem_append]
        grind
      · exact hr.nodup t
    · exact hr.disj t u htu g' (sub t g' hg) (sub u g' hgu)
    · have back := sub t g' hg
      refine ⟨(hr.bound t g' back).1, fun hf => ?_⟩
      rcases hf with hf | hf
      · exact (hr.bound t g' back).2 hf
      · exact (hN g' hf).2.1 t hg
    · by_cases e : t = x
      · subst e
        rw [put_same] at hi
        simp only [AV.ids, List.mem_singleton] at hi
        subst hi
        exact hr.ids t i (by rw [hx]; simp [AV.ids])
      · rw [put_other _ _ _ _ e] at hi; exact hr.ids t i hi
    · have back := sub t g' hg
      refine .inl ((hM' g').2 ⟨(hr.bound t g' back).1, fun hf => ?_, hr.mine t g' back⟩)
      rcases hf with hf | hf
      · exact (hr.bound t g' back).2 hf
      · exact (hN g' hf).2.1 t hg
  exact Code.wp_mono (fun _ _ _ ⟨s, m, q, r⟩ => ⟨s, m, q, r.up k2⟩) (h f2 a w rfl ⟨f2, .refl f2, ρ, _, hr4⟩)
theorem WpA.freezeIn1C {Q : Exit → (Nat → AV) → Nat → Prop} {c : Code} (t x : Nat) {id sz : Nat} {c0 : D} {es cs : List D} (d' : D) (ht : firstR c = some t) (hS : n.S = []) (hx : st x = .own id (.pt true (c0 :: .sl true sz es :: cs))) (he : (D.sl true sz es).erase = d') (h : WpA P n c (put st x (.own id (.pt true (c0 :: d' :: cs)))) nx Q) : WpA P n c st nx Q := by
  subst he
  exact WpA.freezeIn1 x hS hx h
end
end Go.Pv
namespace Go.Pv
open Go.RowKit
def CallNH (P : Program) (K : FuncId) (d : D) (args : List Arg) (d' : D) : Prop :=
  ∀ (w : World) (v : Value) (vs : List Value) (M0 M1 : List Nat) (F : Nat → Prop) (r : Rho), (∀ g, F g → g < w.heap.size ∧ g ∉ M0 ++ M1) → RD F w d r v M0 → ArgsR F w args vs M1 → (M0 ++ M1).Nodup → (∀ g ∈ M0 ++ M1, g < w.heap.size) →
    Calls P K (v :: vs).toArray w fun e w' => ∃ (F' : Nat → Prop) (Lo : List Nat) (r' : Rho), e = .returned (retVal []) ∧ Keep w (M0 ++ M1) w' ∧ (∀ g, F g → F' g) ∧ (∀ g, F' g → g < w'.heap.size ∧ (F g ∨ g ∈ M0 ++ M1 ∨ w.heap.size ≤ g)) ∧ RD F' w' d' r' v Lo ∧ Lo.Nodup ∧ ∀ g ∈ Lo, g < w'.heap.size ∧ ¬ F' g ∧ (g ∈ M0 ++ M1 ∨ w.heap.size ≤ g)
section
variable {P : Program} {n : NN} {nid nx : Nat} {st : Nat → AV} {f : Fr} {X : Nat → Prop} {a : Act} {w : World} {ρ : Nat → Rho} {L : Nat → List Nat} {M : List Nat}
theorem RepM.growT (h : RepM f X st a w ρ L M) (hS : f.N.S = []) (w' : World) (hk : Keep w M w') (F' : Nat → Prop) (hF : ∀ g, f.F g → F' g) (hF' : ∀ g, F' g → g < w'.heap.size ∧ (f.F g ∨ g ∈ M ∨ w.heap.size ≤ g))
    (T : Nat → Prop) (X' : Nat → Prop) (ρ' : Nat → Rho) (hρ : ∀ i, X i → ρ' i = ρ i) (hX' : ∀ i, X i → X' i) (st' : Nat → AV) (a' : Act) (L' : Nat → List Nat) (hd : a'.defers = a.defers) (hsize : a'.tmps.size = a.tmps.size) (hH : ∀ t, f.N t = false → tmp a' t = tmp a t)
    (hsame : ∀ t, ¬ T t → st' t = st t ∧ tmp a' t = tmp a t ∧ L' t = L t)
    (hnew : ∀ t, T t → SR F' w' ρ' (st' t) (tmp a' t) (L' t) ∧ (L' t).Nodup ∧ ∀ g ∈ L' t, g < w'.heap.size ∧ ¬ F' g ∧ ((∃ u, T u ∧ g ∈ L u) ∨ g ∈ M ∨ w.heap.size ≤ g))
    (hdisj : ∀ t u, T t → T u → t ≠ u → ∀ g ∈ L' t, g ∉ L' u) (hids : ∀ t, T t → ∀ i ∈ (st' t).ids, X' i) : RepX f X' st' a' w' := by
  have h0 := h.rep
  let M' : List Nat := open Classical in (List.range w'.heap.size).filter fun g => decide (¬ F' g ∧ (g ∈ f.M ∨ f.w0.heap.size ≤ g))
  have hM' : ∀ g, g ∈ M' ↔ g < w'.heap.size ∧ ¬ F' g ∧ (g ∈ f.M ∨ f.w0.heap.size ≤ g) := fun g => by simp only [M', List.mem_filter, List.mem_range, decide_eq_true_eq]
  let f' : Fr := { w0 := w', M := M', N := f.N, H := f.H, F := F', hF := fun g hg => ⟨(hF' g hg).1, fun hm => ((hM' g).1 hm).2.1 hg⟩, R := f.R, hK := f.hK, hR := f.hR, hS := by rw [hS]; exact fun _ h => (List.not_mem_nil h).elim }
  have hsz := h0.keep.size
  have mine : ∀ g, (g ∈ M ∨ w.heap.size ≤ g) → g ∈ f.M ∨ f.w0.heap.size ≤ g := fun g hg => by
    rcases hg with h1 | h1
    · exact h.mine g h1
    · exact .inr (by omega)
  have hFs : ∀ g, f.F g → Same w w' g := fun g hg => hk.block g (h0.F_lt hg) (fun hm => (h.bound g hm).2 hg)
  have hLs : ∀ t, ∀ g ∈ L t, Same w w' g := fun t g hg => hk.block g (h0.bound t g hg).1 (h.disj t g hg)
  have hLF : ∀ t, ∀ g ∈ L t, ¬ F' g := fun t g hg hf => by
    rcases (hF' g hf).2 with h1 | h1 | h1
    · exact (h0.bound t g hg).2 h1
    · exact h.disj t g hg h1
    · have := (h0.bound t g hg).1; omega
  have apart : ∀ t u, T t → ¬ T u → ∀ g ∈ L' t, g ∉ L u := fun t u ht hu g hg hgu => by
    rcases ((hnew t ht).2.2 g hg).2.2 with ⟨v, hv, hgv⟩ | h1 | h1
    · exact h0.disj v u (by rintro rfl; exact hu hv) g hgv hgu
    · exact h.disj u g hgu h1
    · have := (h0.bound u g hgu).1; omega
  refine ⟨f', ⟨rfl, rfl, rfl, hF, h0.keep.trans hk (fun g hg _ => ?_), fun g hg => ((hM' g).1 hg).2.2, fun g hg => ?_, fun hne => absurd hS hne⟩, ρ', L', ?_⟩
  · rcases h.mine g hg with h1 | h1
    · exact h1
    · omega
  · rcases (hF' g hg).2 with h1 | h1
    · exact .inl h1
    · exact .inr (mine g h1)
  · refine ⟨hd.trans h0.defers, fun t ht => by rw [hsize]; exact h0.size t ht, fun q hq => ⟨(h0.hold q hq).1, (hH _ (h0.hold q hq).1).trans (h0.hold q hq).2⟩, ⟨rfl, rfl, rfl, Nat.le_refl _, fun _ _ _ => rfl, Nat.le_refl _⟩, fun t => ?_, fun t => ?_, fun t u htu g hg hgu => ?_, fun t g hg => ?_, fun t i hi => ?_, fun t g hg => ?_, fun q hq => ⟨hX' _ (h0.names q hq).1, (hρ _ (h0.names q hq).1).trans (h0.names q hq).2⟩⟩
    · by_cases e : T t
      · exact (hnew t e).1
      · obtain ⟨e1, e2, e3⟩ := hsame t e
        rw [e1, e2, e3]
        exact SR.same hF hFs _ _ _ (h0.slots t) (hLs t) (fun i hi => hρ i (h0.ids t i hi))
    · by_cases e : T t
      · exact (hnew t e).2.1
      · rw [(hsame t e).2.2]; exact h0.nodup t
    · by_cases e1 : T t <;> by_cases e2 : T u
      · exact hdisj t u e1 e2 htu g hg hgu
      · rw [(hsame u e2).2.2] at hgu
        exact apart t u e1 e2 g hg hgu
      · rw [(hsame t e1).2.2] at hg
        exact apart u t e2 e1 g hgu hg
      · rw [(hsame t e1).2.2] at hg
        rw [(hsame u e2).2.2] at hgu
        exact h0.disj t u htu g hg hgu
    · by_cases e : T t
      · exact ⟨((hnew t e).2.2 g hg).1, ((hnew t e).2.2 g hg).2.1⟩
      · rw [(hsame t e).2.2] at hg
        exact ⟨Nat.lt_of_lt_of_le (h0.bound t g hg).1 hk.size, hLF t g hg⟩
    · by_cases e : T t
      · exact hids t e i hi
      · rw [(hsame t e).1] at hi
        exact hX' _ (h0.ids t i hi)
    · by_cases e : T t
      · obtain ⟨b1, b2, b3⟩ := (hnew t e).2.2 g hg
        refine .inl ((hM' g).2 ⟨b1, b2, ?_⟩)
        rcases b3 with ⟨u, _, hgu⟩ | h1
        · exact h0.mine u g hgu
        · exact mine g h1
      · rw [(hsame t e).2.2] at hg
        exact .inl ((hM' g).2 ⟨Nat.lt_of_lt_of_le (h0.bound t g hg).1 hk.size, hLF t g hg, h0.mine t g hg⟩)
theorem step_callNH {d0 : Nat} {K : FuncId} {x : Operand} {xs : List Operand} {ts : Array TypeId} {args : List Arg} {d d' : D} {xr id : Nat} {rd rd1 rd2 : List Nat} {up : List (Nat × AV)} {ty pos aft g} [FnOk P K]
    (hc : CallNH P K d args d') (hi : IoAt st x xr id [] d d rd) (hm : Moves (put st xr (.own id .hole)) xs args rd1 up) (hr : ReadsF (puts (put st xr (.own id .hole)) up) xs args rd2)
    (hx : puts (put st xr (.own id .hole)) up xr = .own id .hole) (hne : (d0 == xr) = false) (hS : n.S = []) (hd : n d0 = true) :
    StepX P n ⟨some d0, .call ⟨.value (.func K), (x :: xs).toArray, ts⟩, ty, pos, aft, g⟩ nid st (rd ++ (rd1 ++ rd2)) ((xr, .own id .hole) :: (up ++ [(d0, .dead), (xr, .own nid d')])) := by
  intro X st' hs hX f0 a w hn0 hrep Kk Q hK
  obtain ⟨f, kf, ρ, L, h⟩ := hrep
  have hn : f.N = n := kf.N.trans hn0
  subst hn
  have hne : d0 ≠ xr := by simpa using hne
  have hi' := hi.agree (st' := st') fun s hs' => hs s (List.mem_append_left _ hs')
  have ag : ∀ s, st' s = st s → put st' xr (.own id .hole) s = put st xr (.own id .hole) s := fun s e => by unfold put; split <;> simp_all
  have hm' := hm.agree (st' := put st' xr (.own id .hole)) fun s hs' => ag s (hs s (by simp [hs']))
  have hidX : X id := by
    have := h.ids xr
    rw [hi'.own.1] at this
    exact this id (by simp [AV.ids])
  obtain ⟨L0, M0, h0, hv0⟩ := h.toM.lendN hi'
  have hpz : d.put [] .hole = .hole := rfl
  rw [hpz] at h0
  obtain ⟨L', M1, h1, h2⟩ := h0.moves hm'
  simp only [puts] at hK
  rw [puts_append] at hK
  rw [List.nil_append] at h1
  have hr' := hr.agree (st' := puts (put st' xr (.own id .hole)) up) fun s hs' => puts_agree _ _ (ag s (hs s (by simp [hs'])))
  have h3 := args_ofF h1 h2 hr'
  have hx' : puts (put st' xr (.own id .hole)) up xr = .own id .hole := by
    exact (puts_agree up xr (by simp [put])).trans hx
  refine wp_of_enter (run_call a.eval rfl w) ?_
  have e : (x :: xs).toArray.map a.eval = (a.eval x :: xs.map a.eval).toArray := by simp
  rw [e]
  refine (hc w _ _ M0 M1 f.F ((ρ id).sub []) (fun g hg => ⟨h1.rep.F_lt hg, fun hm => (h1.bound g hm).2 hg⟩) hv0 h3 h1.nd (fun g hg => (h1.bound g hg).1)).mono ?_
  rintro e w' ⟨F', Lo, r', rfl, hk, hF1, hF2, hout, hnd, hL⟩
  refine ⟨_, rfl, hK _ _ (RepX.up ?_ kf)⟩
  have hxs := h1.rep.slots xr
  rw [hx'] at hxs
  simp only [SR, RD] at hxs
  have hev : a.eval x = tmp a xr := by rw [hi'.eval h]; exact hxs.1.symm
  rw [hev] at hout
  refine h1.growT hS w' hk F' hF1 hF2 (fun s => s = xr ∨ s = d0) (fun i => X i ∨ i = nid) (fun i => if i = nid then r' else ρ i) (fun i hi => if_neg (by rintro rfl; exact hX hi)) (fun i hi => .inl hi) _ _ (fun s => if s = xr then Lo else if s = d0 then [] else L' s) (put_defers _ _ _) (put_size _ _ _) (hold_put _ hd) (fun s hs' => ?_) (fun s hs' => ?_) (fun s u hs' hu hsu g hg hgu => ?_) (fun s hs' i hi => ?_)
  · simp only [not_or] at hs'
    refine ⟨?_, tmp_put_other _ _ _ _ hs'.2, by simp [hs'.1, hs'.2]⟩
    simp only [puts]
    rw [put_other _ _ _ _ hs'.1, put_other _ _ _ _ hs'.2]
  · by_cases hsx : s = xr
    · subst hsx
      rw [if_pos rfl, tmp_put_other _ _ _ _ (Ne.symm hne)]
      simp only [puts, put_same, SR, if_true]
      exact ⟨hout, hnd, fun g hg => ⟨(hL g hg).1, (hL g hg).2.1, .inr (hL g hg).2.2⟩⟩
    · have hs0 : s = d0 := hs'.resolve_left hsx
      subst hs0
      rw [if_neg hsx, if_pos rfl]
      simp only [puts]
      rw [put_other _ _ _ _ hsx, put_same]
      exact ⟨by simp only [SR], List.nodup_nil, fun g hg => by simp at hg⟩
  · by_cases hsx : s = xr
    · have hu0 : u ≠ xr := fun e => hsu (hsx.trans e.symm)
      have hu' : u = d0 := hu.resolve_left hu0
      rw [if_neg hu0, if_pos hu'] at hgu
      simp at hgu
    · have hs0 : s = d0 := hs'.resolve_left hsx
      rw [if_neg hsx, if_pos hs0] at hg
      simp at hg
  · by_cases hsx : s = xr
    · subst hsx
      simp only [puts, put_same, AV.ids, List.mem_singleton] at hi
      exact .inr hi
    · have hs0 : s = d0 := hs'.resolve_left hsx
      subst hs0
      simp only [puts] at hi
      rw [put_other _ _ _ _ hsx, put_same] at hi
      simp [AV.ids] at hi
def DoneNH (P : Program) (fn : Func) (d' : D) (e : Exit) (s : Nat → AV) (_ : Nat) : Prop :=
  (e = .normal ∨ e = .ret) ∧ ∃ s', Ress P s fn.results.toList [] s' ∧ ∃ i0, s' 0 = .own i0 d'
theorem DoneNH.ret {fn : Func} {d' d1 : D} {s s' : Nat → AV} {k i0 : Nat} (hr : Ress P s fn.results.toList [] s') (ho : s' 0 = .own i0 d1) (h' : d1 = d') : DoneNH P fn d' .ret s k := by
  subst h'; exact ⟨.inr rfl, s', hr, i0, ho⟩
theorem DoneNH.normal {fn : Func} {d' d1 : D} {s s' : Nat → AV} {k i0 : Nat} (hr : Ress P s fn.results.toList [] s') (ho : s' 0 = .own i0 d1) (h' : d1 = d') : DoneNH P fn d' .normal s k := by
  subst h'; exact ⟨.inl rfl, s', hr, i0, ho⟩
theorem callNH_of {K : FuncId} {fn : Func} {c : Code} {d : D} {args : List Arg} {d' : D} (m : Nat) (hf : P.funcs[K]? = some fn) (hb : fn.body = some c) (hm : fn.ntmps = m)
    (h : WpA P ⟨fun t => decide (t < m) && !([0].contains t), [], [], []⟩ c (initSt (.io d :: args)) (args.length + 1) (DoneNH P fn d')) : CallNH P K d args d' := by
  intro w v vs M0 M1 F r hF hv hargs hnd hM
  obtain ⟨Ls', e1', e2', eM', e4'⟩ := hargs.split
  generalize hM2 : M0 ++ M1 = M at *
  have eM : M = (M0 :: Ls').flatten := by rw [← hM2, eM']; simp
  refine calls_of_wp hf hb ?_
  have htmp : ∀ t, tmp { tmps := (v :: vs).toArray ++ Array.replicate (fn.ntmps - (v :: vs).toArray.size) undef, defers := [] } t = (v :: vs).getD t undef := by
    intro t
    generalize v :: vs = vs
    unfold tmp
    simp only [Array.getD_eq_getD_getElem?, List.getD_eq_getElem?_getD, Array.getElem?_append, List.size_toArray, List.getElem?_toArray, Array.getElem?_replicate]
    by_cases ht : t < vs.length
    · simp [ht]
    · simp only [ht, if_false]
      rw [List.getElem?_eq_none (by omega)]
      split <;> rfl
  let n : NN := ⟨fun t => decide (t < m) && !([0].contains t), [], [], []⟩
  have hn0 : ∀ t, n t = true → t < fn.ntmps := fun t ht => by
    rw [hm]; simp only [n, Bool.and_eq_true, decide_eq_true_eq] at ht; exact ht.1
  let f : Fr := { w0 := w, M := M, N := n, H := [(0, v)], F := F, hF := hF, R := [(0, r)], hK := fun _ h => (List.not_mem_nil h).elim, hR := fun _ h => (List.not_mem_nil h).elim, hS := fun _ h => (List.not_mem_nil h).elim }
  let Ls := M0 :: Ls'
  have hL : ∀ t, (Ls.getD t []).Nodup ∧ ∀ g ∈ Ls.getD t [], g ∈ M := by
    intro t
    rw [List.getD_eq_getElem?_getD]
    cases ht : Ls[t]? with
    | none => simp
    | some Lt =>
      have hmm := List.mem_of_getElem? ht
      rw [eM] at hnd ⊢
      unfold List.Nodup at hnd
      rw [List.pairwise_flatten] at hnd
      exact ⟨hnd.1 Lt hmm, fun g hg => List.mem_flatten.2 ⟨Lt, hmm, hg⟩⟩
  have hch : ∀ t, ∃ r1 : Rho, (t = 0 → r1 = r) ∧ ∀ ρ : Nat → Rho, ρ t = r1 → SR F w ρ (initSt (.io d :: args) t) ((v :: vs).getD t undef) (Ls.getD t []) := by
    intro t
    cases t with
    | zero => exact ⟨r, fun _ => rfl, fun ρ e => by simp only [initSt, Arg.av, SR, List.getElem?_cons_zero]; rw [e]; exact hv⟩
    | succ t =>
      unfold initSt
      rw [List.getElem?_cons_succ]
      cases ht : args[t]? with
      | none =>
        have hlt : args.length ≤ t := by simpa using ht
        refine ⟨fun _ => undef, by simp, fun ρ _ => ?_⟩
        rw [List.getD_eq_getElem?_getD (l := Ls), List.getElem?_eq_none (by simp only [Ls, List.length_cons]; omega)]
        simp only [SR, Option.getD_none]
      | some x =>
        have hlt : t < args.length := (List.getElem?_eq_some_iff.1 ht).1
        have hu : vs[t]? = some (vs[t]'(by omega)) := List.getElem?_eq_getElem _
        have hl : Ls'[t]? = some (Ls'[t]'(by omega)) := List.getElem?_eq_getElem _
        obtain ⟨r1, hr1⟩ := (e4' t x _ _ ht hu hl).sr (t + 1)
        refine ⟨r1, by simp, fun ρ e => ?_⟩
        have := hr1 ρ e
        rw [List.getD_eq_getElem?_getD, List.getD_eq_getElem?_getD, List.getElem?_cons_succ, hu]
        simp only [Ls, List.getElem?_cons_succ, hl]
        exact this
  obtain ⟨ρ, hρ⟩ := Classical.axiomOfChoice hch
  have hrep : Rep f (fun i => i < args.length + 1) (initSt (.io d :: args)) { tmps := (v :: vs).toArray ++ Array.replicate (fn.ntmps - (v :: vs).toArray.size) undef, defers := [] } w := by
    refine ⟨ρ, fun t => Ls.getD t [], rfl, fun d hd => ?_, fun q hq => ?_, ⟨rfl, rfl, rfl, Nat.le_refl _, fun _ _ _ => rfl, Nat.le_refl _⟩, fun t => ?_, fun t => (hL t).1, fun t u htu g hg hgu => ?_, fun t g hg => ?_, fun t i hi => ?_, fun t g hg => .inl ((hL t).2 g hg), fun q hq => ?_⟩
    · have := hn0 d hd
      simp
      omega
    · have : q = (0, v) := by simpa [f] using hq
      subst this
      exact ⟨by simp [f, n], by rw [htmp 0]; rfl⟩
    · rw [htmp t]; exact (hρ t).2 ρ rfl
    · have hnd2 := hnd
      unfold List.Nodup at hnd2
      rw [eM, List.pairwise_flatten] at hnd2
      rw [List.getD_eq_getElem?_getD] at hg hgu
      cases ht : Ls[t]? with
      | none => simp [ht] at hg
      | some Lt =>
        cases hu : Ls[u]? with
        | none => simp [hu] at hgu
        | some Lu =>
          simp only [ht, hu, Option.getD_some] at hg hgu
          obtain ⟨h1, h2⟩ := List.getElem?_eq_some_iff.1 ht
          obtain ⟨h3, h4⟩ := List.getElem?_eq_some_iff.1 hu
          rcases Nat.lt_or_ge t u with hlt | hge
          · have := List.pairwise_iff_getElem.1 hnd2.2 t u h1 h3 hlt
            rw [h2, h4] at this
            exact this g hg g hgu rfl
          · have := List.pairwise_iff_getElem.1 hnd2.2 u t h3 h1 (by omega)
            rw [h2, h4] at this
            exact this g hgu g hg rfl
    · have hm := (hL t).2 g hg
      exact ⟨hM g hm, fun hf => (hF g hf).2 hm⟩
    · unfold initSt at hi
      cases ht : (Arg.io d :: args)[t]? with
      | none => simp [ht, AV.ids] at hi
      | some x =>
        simp only [ht] at hi
        rw [Arg.av_ids x t i hi]
        have := (List.getElem?_eq_some_iff.1 ht).1
        simpa using this
    · have : q = (0, r) := by simpa [f] using hq
      subst this
      exact ⟨by show 0 < args.length + 1; omega, (hρ 0).1 rfl⟩
  refine Code.wp_mono (fun e a' w' hq => ?_) (h f _ w rfl (.of hrep))
  obtain ⟨s1, nx', ⟨he, s', hres, i0, h0⟩, ⟨f', kf, ρ', L', hr⟩⟩ := hq
  have hmine : ∀ g, (g ∈ f'.M ∨ f'.w0.heap.size ≤ g) → g ∈ M ∨ w.heap.size ≤ g := fun g hg => by
    rcases hg with h1 | h1
    · exact kf.M g h1
    · exact .inr (Nat.le_trans kf.keep.size h1)
  have fin : bodyPost P fn (fun e w' => ∃ (F' : Nat → Prop) (Lo : List Nat) (r' : Rho), e = .returned (retVal []) ∧ Keep w M w' ∧ (∀ g, F g → F' g) ∧ (∀ g, F' g → g < w'.heap.size ∧ (F g ∨ g ∈ M ∨ w.heap.size ≤ g)) ∧ RD F' w' d' r' v Lo ∧ Lo.Nodup ∧ ∀ g ∈ Lo, g < w'.heap.size ∧ ¬ F' g ∧ (g ∈ M ∨ w.heap.size ≤ g)) .ret a' w' := by
    obtain ⟨L2, M2, us, hm, hrun, hv2⟩ := hr.toM.ress hres
    simp only [VRs] at hv2
    obtain ⟨rfl, rfl⟩ := hv2
    have hsl := hm.rep.slots 0
    rw [h0] at hsl
    simp only [SR] at hsl
    have hv0 : tmp a' 0 = v := (hr.hold (0, v) (by rw [kf.H]; simp [f])).2
    rw [hv0] at hsl
    refine ⟨hr.defers, retVal [], run_results hrun, f'.F, L2 0, ρ' i0, rfl, kf.keep.trans hr.keep (fun g hg hlt => by
      rcases hmine g (.inl hg) with h1 | h1
      · exact h1
      · have : f.w0 = w := rfl
        rw [this] at hlt
        omega), kf.F, fun g hg => ⟨hr.F_lt hg, kf.new g hg⟩, hsl, hm.rep.nodup 0, fun g hg => ⟨(hm.rep.bound 0 g hg).1, (hm.rep.bound 0 g hg).2, hmine g (hm.rep.mine 0 g hg)⟩⟩
  rcases he with rfl | rfl
  · exact fin
  · exact fin
theorem RunU.viewR {b : Bool} {ops l : List Oper} {pre : List (List Nat × List Nat)} {Q : (Nat → AV) → Nat → Prop} (x : Nat) {id : Nat} {d0 e : D} {path : List Nat} (d' : D) (hx : st x = .own id (d0.put path e)) (hd : d0.put path e = d') (h : RunU b P n ops l (put st x (.own id d')) nx pre Q) : RunU b P n ops l st nx pre Q := by
  have e1 : put st x (.own id d') = st := by
    funext s
    unfold put
    split
    · rename_i h1; rw [h1, hx, hd]
    · rfl
  rwa [e1] at h
theorem WpA.rerootRet {Q : Exit → (Nat → AV) → Nat → Prop} (x y : Nat) {id : Nat} {cs : List D} (hxy : (x == y) = false) (hx : st x = .own id (.pt true cs)) (hy : st y = .ptr x id [] 0)
    (h : WpA P n .ret (put (put st x (.ptr y id [] 0)) y (.own id (.pt true cs))) nx Q) : WpA P n .ret st nx Q := WpA.reroot hxy hx hy h
theorem WpA.numC {Q : Exit → (Nat → AV) → Nat → Prop} {c : Code} (t x : Nat) {d : D} (ht : firstR c = some t) (hx : st x = .raw d) (h : WpA P n c (put st x (.own nx d)) (nx + 1) Q) : WpA P n c st nx Q := by
  refine WpA.of0 ?_
  intro f a w hn ⟨ρ, L, hr⟩
  subst hn
  have hsl := hr.slots x
  rw [hx] at hsl
  simp only [SR] at hsl
  obtain ⟨r, hd⟩ := hsl
  refine h f a w rfl ⟨f, .refl f, fun i => if i = nx then r else ρ i, L, ?_⟩
  refine hr.step (fun s => s = x) [] _ _ a w _ L rfl rfl (fun _ _ => rfl) (Keep.refl w) (by simp) (fun i hi => if_neg (by omega)) (fun s hs => ⟨put_other _ _ _ _ hs, rfl, rfl⟩) (fun s hs => ?_) (fun s u hs hu hne => absurd (hs.trans hu.symm) hne) (fun i hi => by omega) (fun s hs i hi => ?_)
  · subst hs
    rw [put_same]
    simp only [SR, if_true]
    exact ⟨hd, hr.nodup s, fun g hg => ⟨(hr.bound s g hg).1, .inl ⟨s, rfl, hg⟩⟩⟩
  · subst hs
    rw [put_same] at hi
    simp only [AV.ids, List.mem_singleton] at hi
    omega
theorem step_stores_nm (q : Nat) {t x id off : Nat} {path rd rd0 : List Nat} {xv : Operand} {T : TypeId} {dd d1 : D} {cs ds : List D} {up : List (Nat × AV)} {ty pos aft g} (hg : GiveV st xv rd ds up) (hp : Pts (puts st up) t rd0 x id dd path off) (hn' : dd.nav path = some d1) (hk : d1.kids = some cs)
    {m : Nat} [hT : SizeTy P T m] (hm0 : ds.length = m) (hlen : off + ds.length ≤ cs.length) (hz : ds ≠ []) (hdp : ∃ cs0, dd = .pt true cs0) (hq : puts st up q = .ptr x id [] 0) (hqx : (q == x) = false) (hpath : path = []) :
    Step P n ⟨none, .store T (.tmp t) xv, ty, pos, aft, g⟩ nid st (rd ++ (q :: rd0)) (up ++ [(x, .own nid (dd.put path (d1.withKids (D.over cs off ds)))), (q, .ptr x nid [] 0)]) := by
  intro X st' hs hX f a w hn hrep K Q hK
  obtain ⟨ρ, L, hr⟩ := hrep
  subst hn
  obtain ⟨r, L', M1, us, hm, hus, hv⟩ := hr.giveV (hg.agree fun s h => hs s (by simp [h]))
  have hp' := hp.agree (st' := puts st' up) fun s h => puts_agree _ _ (hs s (by simp [h]))
  rw [puts_append] at hK
  have h0 := hm.rep
  obtain ⟨hid, b, hb, e0⟩ := hp'.addr h0
  have hcs : cs ≠ [] := by rintro rfl; exact hz (List.eq_nil_of_length_eq_zero (by have := hlen; simp only [List.length_nil] at this; omega))
  obtain ⟨g0, o0, _, _, hb', hg0, _⟩ := h0.partKids hp'.own hn' hk hcs
  rw [hb] at hb'
  simp only [Option.some.injEq] at hb'
  subst hb'
  rw [addr_off] at e0
  obtain ⟨v1, A, L1, B, eL, h1, hset⟩ := h0.part hp'.own hn'
  have hv1 : v1 = ρ id path := by
    cases d1 with
    | lit v => simp [D.kids] at hk
    | hole => simp [D.kids] at hk
    | fn g cs => simp [D.kids] at hk
    | sl own sz cs' => cases own <;> simp [D.kids] at hk; simp only [RD] at h1; rw [h1.1, Rho.sub_nil]
    | pt own cs' => cases own <;> simp [D.kids] at hk; simp only [RD] at h1; rw [h1.1, Rho.sub_nil]
  have hsub : ∀ g' ∈ L1, g' ∈ L' x := fun g' hg => by rw [eL]; simp [hg]
  have hndx := h0.nodup x
  rw [eL] at hndx
  have hnd1 : L1.Nodup := (List.nodup_append.1 ((List.nodup_append.1 hndx).2.1)).1
  have hg1 : g0 ∈ L1 := by
    obtain ⟨g2, o2, _, _, _, hb2, e2, _⟩ := h1.store (j := 0) hk (List.getElem?_eq_getElem (by
      cases cs with
      | nil => exact absurd rfl hcs
      | cons => simp)) hnd1 (fun g' hg' => (h0.bound x g' (hsub g' hg')).2)
    rw [hv1, hb] at hb2
    simp only [Option.some.injEq, Addr.mk.injEq, and_true] at hb2
    obtain ⟨rfl, rfl⟩ := hb2
    rw [e2]; simp
  obtain ⟨ρ', L2, c1, c2, c3, c4, c5, c6, c7, c8⟩ := RD.stores (g := g0) (o := o0) hv hm.nd (fun g' hg' => (hm.bound g' hg').2) (j := off) h1 hk hlen hnd1 (fun g' hg' => (h0.bound x g' (hsub g' hg')).2) (fun g' hg' => hm.disj x g' (hsub g' hg')) (by rw [hv1]; exact hb) hg1
  have hAB : ∀ g', g' ∈ A ∨ g' ∈ B → g' ≠ g0 := by
    rintro g' hg' rfl
    simp only [List.nodup_append, List.mem_append] at hndx
    rcases hg' with hg' | hg'
    · exact hndx.2.2 g' hg' g' (.inl hg1) rfl
    · exact hndx.2.1.2.2 g' hg1 g' hg' rfl
  have hfin := hset (w.setCells g0 (o0 + off) us) _ _ _ (fun g' hg' => c6 g' (by rintro rfl; exact (h0.bound x g' hg0).2 hg')) (fun g' hg' => c6 g' (hAB g' hg')) c2
  have hml : us.length = ds.length := hv.length
  refine wp_of_skip (w' := w.setCells g0 (o0 + off) us) ?_ ?_
  · have hrun := run_store_cells (P := P) (T := T) (m := m) w g0 (o0 + off) (a.eval xv) (by rw [hus, hml, hm0]) (by rw [← hm0]; exact c1) (by rw [hus]; exact ones_of hv)
    rw [hus] at hrun
    simp only [execOp, e0, Sem.run_bind, hrun, Result.andThen_ok, Sem.run_pure]
  · have hbase : RepO f (fun i => X i ∨ i = nid) (put (puts st' up) x (.own nid (dd.put path (d1.withKids (D.over cs off ds))))) a (w.setCells g0 (o0 + off) us) (fun i => if i = nid then (ρ id).set path ρ' else ρ i) (fun s => if s = x then A ++ (L2 ++ B) else L' s) := by
      refine hm.step (fun s => s = x) [g0] _ _ _ (w.setCells g0 (o0 + off) us) _ _ rfl rfl (fun _ _ => rfl) c8 (fun g' hg' => .inl ⟨x, rfl, by simp only [List.mem_singleton] at hg'; rw [hg']; exact hg0⟩) (fun i hi => by rw [if_neg (by rintro rfl; exact hX hi)]) (fun s hs' => ⟨put_other _ _ _ _ hs', rfl, by simp [hs']⟩) (fun s hs' => ?_) (fun s u hs' hu hne => absurd (hs'.trans hu.symm) hne) (fun _ h => .inl h) (fun s hs' i hi => ?_)
      · subst hs'
        simp only [puts, put_same, if_true, SR]
        refine ⟨hfin, ?_, fun g' hg' => ?_⟩
        · have hd2 : ∀ g' ∈ L2, g' ∉ A ∧ g' ∉ B := fun g' hg' => by
            rcases c4 g' hg' with h | h
            · simp only [List.nodup_append, List.mem_append] at hndx
              exact ⟨fun ha => hndx.2.2 g' ha g' (.inl h) rfl, fun hb => hndx.2.1.2.2 g' h g' hb rfl⟩
            · have := fun hx => hm.disj s g' hx h
              rw [eL] at this
              simp only [List.mem_append] at this
              exact ⟨fun ha => this (.inl ha), fun hb => this (.inr (.inr hb))⟩
          simp only [List.nodup_append, List.mem_append] at hndx ⊢
          grind
        · simp only [List.mem_append] at hg'
          have hlt : ∀ g', (g' ∈ L' s ∨ g' ∈ M1) → g' < (w.setCells g0 (o0 + off) us).heap.size ∧ ((∃ u, u = s ∧ g' ∈ L' u) ∨ g' ∈ M1 ∨ w.heap.size ≤ g') := by
            intro g' h
            rw [c7]
            rcases h with h | h
            · exact ⟨(h0.bound s g' h).1, .inl ⟨s, rfl, h⟩⟩
            · exact ⟨(hm.bound g' h).1, .inr (.inl h)⟩
          refine hlt g' ?_
          rcases hg' with h | h | h
          · left; rw [eL]; simp [h]
          · rcases c4 g' h with h | h
            · exact .inl (hsub g' h)
            · exact .inr h
          · left; rw [eL]; simp [h]
      · subst hs'
        simp only [puts, put_same, AV.ids, List.mem_singleton] at hi
        exact .inr hi
    subst hpath
    obtain ⟨cs0, rfl⟩ := hdp
    have hxq : q ≠ x := by simpa using hqx
    have hq' := (puts_agree up q (hs q (by simp))).trans hq
    have hqs := h0.slots q
    rw [hq'] at hqs
    simp only [SR] at hqs
    obtain ⟨_, b2, hb2, hv2⟩ := hqs
    have e1 := h0.slots x
    rw [hp'.own] at e1
    simp only [SR] at e1
    have e2 := hbase.slots x
    rw [put_same] at e2
    simp only [SR, if_true] at e2
    have hd1 : d1 = .pt true cs0 := by
      simp only [D.nav, Option.some.injEq] at hn'
      exact hn'.symm
    subst hd1
    have n1 : tmp a x = ρ id [] := named (cs := cs0) rfl e1
    have n2 := named (d := (D.pt true cs0).put [] ((D.pt true cs0).withKids (D.over cs off ds))) (cs := D.over cs off ds) rfl e2
    refine hK _ _ ⟨_, _, hbase.drop q (.ptr x nid [] 0) [] ?_ ?_ (by simp) List.nodup_nil⟩
    · simp only [SR, if_true]
      exact ⟨trivial, b2, by rw [← n2, n1]; exact hb2, hv2⟩
    · simp [AV.ids]
end
end Go.Pv
