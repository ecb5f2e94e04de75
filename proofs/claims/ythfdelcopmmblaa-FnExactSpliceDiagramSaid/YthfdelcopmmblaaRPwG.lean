/- Recursive function values: a closure that captures the variable it stands in, one variable that it writes, and one that it reads. No condition. -/
import Derived.Test.YthfdelcopmmblaaRPwC
import Derived.Test.YthfdelcopmmblaaRPvX
import Derived.Test.YthfdelcopmmblaaRPvZ
namespace Go.Pv
set_option linter.unusedVariables false
set_option linter.unusedSimpArgs false
open Go.RowKit
abbrev recVal (K : FuncId) (vK vS vM : Value) : Value := .func (.func K) #[] #[vK, vS, vM]
def CallR (P : Program) (K : FuncId) (ks : List Value) (d : D) (cs : List D) (d' : D) : Prop :=
  ∀ (w : World) (vK vS vM : Value) (M0 : List Nat) (F : Nat → Prop) (r : Rho), (∀ g, F g → g < w.heap.size ∧ g ∉ M0) → RD F w d r vK M0 → (∃ r', RD F w (.pt false cs) r' vS []) →
    (∃ r', RD F w (.pt false [.lit (recVal K vK vS vM)]) r' vM []) → M0.Nodup → (∀ g ∈ M0, g < w.heap.size) →
    Calls P K (ks ++ [vK, vS, vM]).toArray w fun e w' => ∃ Lo, e = .returned (retVal []) ∧ Keep w M0 w' ∧ RD (Res true F) w' d' r vK Lo ∧ Lo.Nodup ∧ ∀ g ∈ Lo, g < w'.heap.size ∧ (g ∈ M0 ∨ w.heap.size ≤ g)
section
variable {P : Program} {n : NN} {nid : Nat} {st : Nat → AV} {f : Fr} {X : Nat → Prop} {a : Act} {w : World} {ρ : Nat → Rho} {L : Nat → List Nat} {M : List Nat}
theorem sptr_rd (h : RepO f X st a w ρ L) {t : Nat} {cs : List D} (ht : st t = .sptr cs 0) : ∃ r, RD f.F w (.pt false cs) r (tmp a t) [] := by
  have h1 := h.slots t
  rw [ht] at h1
  simp only [SR] at h1
  obtain ⟨_, b, us, r, e0, hb, hc, h5⟩ := h1
  refine ⟨r, ?_⟩
  simp only [RD]
  rw [add_zero'] at e0
  exact ⟨trivial, b, us, e0, hb, hc, h5⟩
theorem step_call_rec {d0 t : Nat} {K : FuncId} {xs : Array Operand} {ts : Array TypeId} {ks : List Value} {d d' : D} {cs : List D} {vK vS vM : Value} {r : Rho} {rd : List Nat} {ty pos aft g} [FnOk P K]
    (hc : CallR P K ks d cs d') (hk : n.K = [(2, vK), (3, vS), (4, vM)]) (hr : n.R = [(2, r)]) (ht : st t = .c (.lit (recVal K vK vS vM))) (h2 : st 2 = .own 2 d) (h3 : st 3 = .sptr cs 0) (h4 : st 4 = .sptr [.lit (recVal K vK vS vM)] 0) (hks : Lits st xs.toList rd ks) (hne : (d0 == 2) = false) (hd : n d0 = true) :
    Step P n ⟨some d0, .call ⟨.value (.tmp t), xs, ts⟩, ty, pos, aft, g⟩ nid st (t :: 2 :: 3 :: 4 :: rd) [(d0, .dead), (2, .own 2 d')] := by
  intro X st' hs hX f a w hn hrep Kk Q hK
  obtain ⟨ρ, L, h⟩ := hrep
  subst hn
  have hne : d0 ≠ 2 := by simpa using hne
  have ht' := (hs t (by simp)).trans ht
  have h2' := (hs 2 (by simp)).trans h2
  have h3' := (hs 3 (by simp)).trans h3
  have h4' := (hs 4 (by simp)).trans h4
  have hks' := (hks.agree (st' := st') fun s hs' => hs s (by simp [hs'])).eval h
  have q2 : tmp a 2 = vK := (h.hold (2, vK) (f.hK _ (by rw [hk]; simp))).2
  have q3 : tmp a 3 = vS := (h.hold (3, vS) (f.hK _ (by rw [hk]; simp))).2
  have q4 : tmp a 4 = vM := (h.hold (4, vM) (f.hK _ (by rw [hk]; simp))).2
  have qr : ρ 2 = r := (h.names (2, r) (f.hR _ (by rw [hr]; simp))).2
  have hX2 : X 2 := (h.names (2, r) (f.hR _ (by rw [hr]; simp))).1
  have e0 : a.eval (.tmp t) = recVal K vK vS vM := Lit.eval h (x := .tmp t) ht'
  have k2 := h.slots 2
  rw [h2'] at k2
  simp only [SR] at k2
  rw [q2, qr] at k2
  have k3 := sptr_rd h h3'
  rw [q3] at k3
  have k4 := sptr_rd h h4'
  rw [q4] at k4
  refine wp_of_enter (run_call_val (x := .tmp t) a.eval #[vK, vS, vM] e0 w) ?_
  have e : xs.map a.eval ++ #[vK, vS, vM] = (ks ++ [vK, vS, vM]).toArray := by
    apply Array.ext'
    rw [Array.toList_append, Array.toList_map, hks']
  rw [e]
  refine (hc w vK vS vM (L 2) f.F r (fun g hg => ⟨h.F_lt hg, fun hm => (h.bound 2 g hm).2 hg⟩) k2 k3 k4 (h.nodup 2) (fun g hg => (h.bound 2 g hg).1)).mono ?_
  rintro e w' ⟨Lo, rfl, hkp, hout, hnd, hL⟩
  refine ⟨_, rfl, ?_⟩
  refine hK _ _ ⟨ρ, fun s => if s = 2 then Lo else if s = d0 then [] else L s, ?_⟩
  refine h.step (fun s => s = 2 ∨ s = d0) (L 2) _ _ _ w' _ _ (put_defers _ _ _) (put_size _ _ _) (hold_put _ hd) hkp (fun g hg => ⟨2, .inl rfl, hg⟩) (fun i hi => rfl) (fun s hs' => ?_) (fun s hs' => ?_) (fun s u hs' hu hsu g hg hgu => ?_) (fun _ h => .inl h) (fun s hs' i hi => ?_)
  · simp only [not_or] at hs'
    refine ⟨?_, tmp_put_other _ _ _ _ hs'.2, by simp [hs'.1, hs'.2]⟩
    simp only [puts]; rw [put_other _ _ _ _ hs'.1, put_other _ _ _ _ hs'.2]
  · by_cases hsx : s = 2
    · subst hsx
      rw [if_pos rfl, tmp_put_other _ _ _ _ (Ne.symm hne)]
      simp only [puts, put_same, SR]
      rw [q2, qr]
      refine ⟨RD.same (fun g hg => by cases hg.1) (fun g hg => by cases hg.1) d' _ _ Lo hout (fun _ _ => rfl), hnd, fun g hg => ⟨(hL g hg).1, ?_⟩⟩
      rcases (hL g hg).2 with h' | h'
      · exact .inl ⟨2, .inl rfl, h'⟩
      · exact .inr h'
    · have hs0 : s = d0 := hs'.resolve_left hsx
      subst hs0
      rw [if_neg hsx, if_pos rfl, tmp_put_same _ _ _ (h.size _ hd)]
      simp only [puts]
      rw [put_other _ _ _ _ hsx, put_same]
      exact ⟨by simp only [SR], List.nodup_nil, fun g hg => by simp at hg⟩
  · by_cases hsx : s = 2
    · have hu0 : u ≠ 2 := fun e => hsu (hsx.trans e.symm)
      have hu' : u = d0 := hu.resolve_left hu0
      rw [if_neg hu0, if_pos hu'] at hgu
      simp at hgu
    · have hs0 : s = d0 := hs'.resolve_left hsx
      rw [if_neg hsx, if_pos hs0] at hg
      simp at hg
  · by_cases hsx : s = 2
    · subst hsx
      simp only [puts, put_same, AV.ids, List.mem_singleton] at hi
      exact .inl (by rw [hi]; exact hX2)
    · have hs0 : s = d0 := hs'.resolve_left hsx
      subst hs0
      simp only [puts] at hi
      rw [put_other _ _ _ _ hsx, put_same] at hi
      simp [AV.ids] at hi
abbrev recArgs (k1 k2 : Value) (d : D) (cs : List D) (fv : Value) : List Arg := [.sh (.one (.lit k1)), .sh (.one (.lit k2)), .io d, .sh (.one (.pt false cs)), .sh (.one (.pt false [.lit fv]))]
def DoneR (d' : D) (e : Exit) (s : Nat → AV) (_ : Nat) : Prop := (e = .normal ∨ e = .ret) ∧ s 2 = .own 2 d'
theorem DoneR.ret {d1 d' : D} {s : Nat → AV} {k : Nat} (h : s 2 = .own 2 d1) (h' : d1 = d') : DoneR d' .ret s k := by subst h'; exact ⟨.inr rfl, h⟩
theorem DoneR.normal {d1 d' : D} {s : Nat → AV} {k : Nat} (h : s 2 = .own 2 d1) (h' : d1 = d') : DoneR d' .normal s k := by subst h'; exact ⟨.inl rfl, h⟩
theorem callR_of {K : FuncId} {fn : Func} {c : Code} {k1 k2 : Value} {d d' : D} {cs : List D} (m : Nat) (hf : P.funcs[K]? = some fn) (hb : fn.body = some c) (hm : fn.ntmps = m) (hm5 : 5 ≤ m) (hres : fn.results = #[]) (hs : d'.solid = true) (o1 : k1.oneCell' = true) (o2 : k2.oneCell' = true)
    (h : ∀ vK vS vM r, WpA P ⟨fun t => decide (t < m) && !([2, 3, 4].contains t), [(2, vK), (3, vS), (4, vM)], [(2, r)]⟩ c (initSt (recArgs k1 k2 d cs (recVal K vK vS vM))) 5 (DoneR d')) : CallR P K [k1, k2] d cs d' := by
  intro w vK vS vM M0 F r hF hv hvs hvm hnd hM
  refine calls_of_wp hf hb ?_
  have htmp : ∀ t, tmp { tmps := ([k1, k2] ++ [vK, vS, vM]).toArray ++ Array.replicate (fn.ntmps - ([k1, k2] ++ [vK, vS, vM]).toArray.size) undef, defers := [] } t = ([k1, k2, vK, vS, vM] : List Value).getD t undef := by
    intro t
    show tmp { tmps := ([k1, k2, vK, vS, vM] : List Value).toArray ++ Array.replicate (fn.ntmps - ([k1, k2, vK, vS, vM] : List Value).toArray.size) undef, defers := [] } t = _
    generalize ([k1, k2, vK, vS, vM] : List Value) = vs
    unfold tmp
    simp only [Array.getD_eq_getD_getElem?, List.getD_eq_getElem?_getD, Array.getElem?_append, List.size_toArray, List.getElem?_toArray, Array.getElem?_replicate]
    by_cases ht : t < vs.length
    · simp [ht]
    · simp only [ht, if_false]
      rw [List.getElem?_eq_none (by omega)]
      split <;> rfl
  let nn : NN := ⟨fun t => decide (t < m) && !([2, 3, 4].contains t), [(2, vK), (3, vS), (4, vM)], [(2, r)]⟩
  have hn0 : ∀ t, nn t = true → t < fn.ntmps := fun t ht => by
    rw [hm]; simp only [nn, Bool.and_eq_true, decide_eq_true_eq] at ht; exact ht.1
  let f : Fr := { w0 := w, M := M0, N := nn, H := [(2, vK), (3, vS), (4, vM)], F := F, hF := hF, R := [(2, r)], hK := fun _ h => h, hR := fun _ h => h }
  let Ls : Nat → List Nat := fun t => if t = 2 then M0 else []
  have hrep : Rep f (fun i => i < 5) (initSt (recArgs k1 k2 d cs (recVal K vK vS vM))) { tmps := ([k1, k2] ++ [vK, vS, vM]).toArray ++ Array.replicate (fn.ntmps - ([k1, k2] ++ [vK, vS, vM]).toArray.size) undef, defers := [] } w := by
    refine ⟨fun _ => r, Ls, rfl, fun d hd => ?_, fun q hq => ?_, ⟨rfl, rfl, rfl, Nat.le_refl _, fun _ _ _ => rfl⟩, fun t => ?_, fun t => ?_, fun t u htu g hg hgu => ?_, fun t g hg => ?_, fun t i hi => ?_, fun t g hg => ?_, fun q hq => ?_⟩
    · have := hn0 d hd
      simp
      omega
    · have : q = (2, vK) ∨ q = (3, vS) ∨ q = (4, vM) := by simpa [f] using hq
      rw [htmp]
      rcases this with rfl | rfl | rfl <;> exact ⟨by simp [f, nn], rfl⟩
    · rw [htmp t]
      match t with
      | 0 => simp only [initSt, recArgs, List.getElem?_cons_zero, Arg.av, SR, RD, Ls]; exact ⟨rfl, fun _ => undef, rfl, o1, trivial⟩
      | 1 => simp only [initSt, recArgs, List.getElem?_cons_succ, List.getElem?_cons_zero, Arg.av, SR, RD, Ls]; exact ⟨rfl, fun _ => undef, rfl, o2, trivial⟩
      | 2 => simp only [initSt, recArgs, List.getElem?_cons_succ, List.getElem?_cons_zero, Arg.av, SR, Ls, if_true]; exact hv
      | 3 =>
        simp only [initSt, recArgs, List.getElem?_cons_succ, List.getElem?_cons_zero, Arg.av, SR, Ls]
        obtain ⟨r', h1⟩ := hvs
        simp only [RD] at h1
        obtain ⟨_, b, us, e0, hb', hc', h5⟩ := h1
        exact ⟨rfl, b, us, r', by rw [add_zero']; exact e0, hb', hc', h5⟩
      | 4 =>
        simp only [initSt, recArgs, List.getElem?_cons_succ, List.getElem?_cons_zero, Arg.av, SR, Ls]
        obtain ⟨r', h1⟩ := hvm
        simp only [RD] at h1
        obtain ⟨_, b, us, e0, hb', hc', h5⟩ := h1
        exact ⟨rfl, b, us, r', by rw [add_zero']; exact e0, hb', hc', h5⟩
      | t + 5 => simp [initSt, recArgs, SR, Ls]
    · simp only [Ls]; split
      · exact hnd
      · exact List.nodup_nil
    · simp only [Ls] at hg hgu
      split at hg
      · rename_i e
        rw [if_neg (fun e' => htu (e.trans e'.symm))] at hgu
        simp at hgu
      · simp at hg
    · simp only [Ls] at hg
      split at hg
      · exact ⟨hM g hg, fun hf => (hF g hf).2 hg⟩
      · simp at hg
    · match t with
      | 0 => simp [initSt, recArgs, Arg.av, AV.ids] at hi
      | 1 => simp [initSt, recArgs, Arg.av, AV.ids] at hi
      | 2 => simp [initSt, recArgs, Arg.av, AV.ids] at hi; omega
      | 3 => simp [initSt, recArgs, Arg.av, AV.ids] at hi
      | 4 => simp [initSt, recArgs, Arg.av, AV.ids] at hi
      | t + 5 => simp [initSt, recArgs, AV.ids] at hi
    · simp only [Ls] at hg
      split at hg
      · exact .inl hg
      · simp at hg
    · have : q = (2, r) := by simpa [f] using hq
      subst this
      exact ⟨by show 2 < 5; omega, rfl⟩
  refine Code.wp_mono (fun e a' w' hq => ?_) (h vK vS vM r f _ w rfl hrep)
  obtain ⟨s1, nx', ⟨he, h0⟩, ⟨ρ', L', hr⟩⟩ := hq
  have fin : bodyPost P fn (fun e w' => ∃ Lo, e = .returned (retVal []) ∧ Keep w M0 w' ∧ RD (Res true F) w' d' r vK Lo ∧ Lo.Nodup ∧ ∀ g ∈ Lo, g < w'.heap.size ∧ (g ∈ M0 ∨ w.heap.size ≤ g)) .ret a' w' := by
    have hsl := hr.slots 2
    rw [h0] at hsl
    simp only [SR] at hsl
    have hv0 : tmp a' 2 = vK := (hr.hold (2, vK) (by simp [f])).2
    have hr0 : ρ' 2 = r := (hr.names (2, r) (by simp [f])).2
    rw [hv0, hr0] at hsl
    refine ⟨hr.defers, retVal [], run_results (by rw [hres]; simp), L' 2, rfl, hr.keep, RD.solid d' r vK _ hsl hs, hr.nodup 2, fun g hg => ⟨(hr.bound 2 g hg).1, hr.mine 2 g hg⟩⟩
  rcases he with rfl | rfl
  · exact fin
  · exact fin
end
end Go.Pv
