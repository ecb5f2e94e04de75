/- The reference's list of curves. No condition. -/
import Derived.Test.YtinenidbgmddhaaGreatUDgC
import Derived.Test.YtinenidbgmddhaaGreatUCwG
set_option linter.unusedVariables false
set_option linter.unusedSimpArgs false
namespace Go.Pv
section
variable {P : Program} {n : NN} {nid nx : Nat} {st : Nat → AV} {f : Fr} {X : Nat → Prop} {a : Act} {w : World} {ρ : Nat → Rho} {L : Nat → List Nat}
theorem step_slice_sh2 {cs : List D} {N d t l h : Nat} {T : TypeId} {lo hi : Option Operand} {r1 r2 : List Nat} {ty pos aft g} [SliceTy P T 2] (ht : st t = .c (.sl false 2 cs)) (hN : cs.length = N * 2) (hlo : BdL st lo r1 l) (hhi : BdH st N hi r2 h) (h1 : l ≤ h) (h2 : h ≤ N) (hd : n d = true) :
    Step P n ⟨some d, .slice T (.tmp t) lo hi none, ty, pos, aft, g⟩ nid st (t :: (r1 ++ r2)) [(d, .c (.sl false 2 ((cs.drop (l * 2)).take ((h - l) * 2))))] := by
  intro X st' hs hX f a w hn hrep K Q hK
  obtain ⟨ρ, L, hr⟩ := hrep
  subst hn
  have hv := hr.slots t
  rw [(hs t (by simp)).trans ht] at hv
  simp only [SR, RD] at hv
  obtain ⟨_, r, _, us, hsh, h5⟩ := hv
  have hl := h5.length
  have hsh' := hsh
  obtain ⟨a0, n0, c0, e0, e1, e2, e3, _⟩ := hsh
  have en : n0 = N := by omega
  subst en
  have k1 := (hlo.agree fun s hs' => hs s (by simp [hs'])).eval hr
  have k2 := (hhi.agree fun s hs' => hs s (by simp [hs'])).eval hr
  refine wp_of_value (u := .slice (if c0 = l then a0 else a0.map (·.add (l * 2))) (h - l) (c0 - l)) (w' := w) ?_ (hr.done_light hK hd _ w (Keep.refl w) ?_ (by simp [AV.ids]))
  · have e1 : a.eval (.tmp t) = _ := e0
    simp only [execOp, e1, Option.map_none, Sem.run_bind, run_slice_cut w a0 n0 c0 l h _ _ k1 k2 h1 h2 (by omega), Result.andThen_ok, Sem.run_pure]
  · simp only [SR]
    obtain ⟨r', hr'⟩ := RDs.cut (l * 2) ((h - l) * 2) _ _ _ _ h5
    refine ⟨trivial, r', ?_⟩
    simp only [RD]
    exact ⟨trivial, _, hsh'.cut (lo := l) e0 (by omega) (by omega) (by omega) (fun hne => by rw [if_neg (by omega)]), hr'⟩
theorem WpA.freezeC {Q : Exit → (Nat → AV) → Nat → Prop} {c : Code} (t x : Nat) {id : Nat} {d : D} (d' : D) (ht : firstR c = some t) (hS : n.S = []) (hx : st x = .own id d) (he : d.erase = d') (h : WpA P n c (put st x (.c d')) nx Q) : WpA P n c st nx Q := by
  subst he
  exact WpA.freeze x hS hx h
theorem step_slice_empty {d sz : Nat} {T : TypeId} {ty pos aft g} [hT : SliceTy P T sz] (hd : n d = true) :
    Step P n ⟨some d, .buildSlice T 0 #[], ty, pos, aft, g⟩ nid st [] [(d, .own nid (.sl true sz []))] := by
  intro X st' hs hX f a w hn hrep K Q hK
  obtain ⟨ρ, L, hr⟩ := hrep
  subst hn
  obtain ⟨e, i, z, t1, t2, t3, t6, t7, _, t4, t5⟩ := hT.out
  have hrun : (Instr.buildSlice T 0 #[]).run P w = .ok (.slice (some ⟨w.heap.size, 0, none⟩) 0 0) (w.alloc (.cells #[] e)) := by
    simp [Instr.buildSlice, run_underlying t1, sizeOf, typeInfo, zeroValue, t2, t3, t4, newRow, Instr.fill, show ¬ sz = 0 from by omega, show ∀ x : Value, Array.map (fun _ => x) (Array.range 0) = #[] from fun x => by simp [Array.range]]
  refine wp_of_value (u := .slice (some ⟨w.heap.size, 0, none⟩) 0 0) (w' := w.alloc (.cells #[] e)) ?_ (hr.done_new hK hd hX _ _ (Keep.alloc w _) (fun _ => .slice (some ⟨w.heap.size, 0, none⟩) 0 0) [w.heap.size] ?_ (by simp) (fun g hg => ?_))
  · simp only [execOp, Array.map_empty, Sem.run_bind, hrun, Result.andThen_ok, Sem.run_pure]
  · simp only [RD]
    refine ⟨trivial, [], [w.heap.size], [], rfl, .mk0 ⟨w.heap.size, 0, 0, #[], e, rfl, alloc_new w _, by simp, Nat.le_refl _, by unfold maxLen; omega, by simp, by simp, rfl⟩, by simp [RDs]⟩
  · simp only [List.mem_singleton] at hg
    subst hg
    exact ⟨by simp, Nat.le_refl _⟩
theorem VR.grow {F F' : Nat → Prop} {w : World} (hF : ∀ g, F g → F' g) {v : V} {u : Value} {L0 : List Nat} (h : VR F w v u L0) : VR F' w v u L0 := by
  cases v with
  | one d => obtain ⟨r, h⟩ := h; exact ⟨r, RD.same hF (fun _ _ => rfl) _ _ _ _ h (fun _ _ => rfl)⟩
  | agg ds => obtain ⟨r, us, e, h⟩ := h; exact ⟨r, us, e, RDs.same hF (fun _ _ => rfl) _ _ _ _ _ h (fun _ _ => rfl)⟩
theorem ArgsR.grow {F F' : Nat → Prop} {w : World} (hF : ∀ g, F g → F' g) : ∀ {args : List Arg} {us : List Value} {M : List Nat}, ArgsR F w args us M → ArgsR F' w args us M
  | [], _, _, h => h
  | x :: args, us, M, h => by
    simp only [ArgsR] at h ⊢
    obtain ⟨u, us', L1, L2, e1, e2, h1, h2⟩ := h
    refine ⟨u, us', L1, L2, e1, e2, ?_, ArgsR.grow hF h2⟩
    cases x with
    | sh v => exact ⟨h1.1, h1.2.grow hF⟩
    | mv v => exact VR.grow hF h1
    | io d => obtain ⟨r, h1⟩ := h1; exact ⟨r, RD.same hF (fun _ _ => rfl) _ _ _ _ h1 (fun _ _ => rfl)⟩
theorem VR.frz {F F' : Nat → Prop} {w : World} (hF : ∀ g, F g → F' g) {v : V} {u : Value} {L0 : List Nat} (h : VR F w v u L0) (hL : ∀ g ∈ L0, F' g) : VR F' w v.erase u [] := by
  cases v with
  | one d => obtain ⟨r, h⟩ := h; exact ⟨r, RD.erase hF _ _ _ _ h hL⟩
  | agg ds => obtain ⟨r, us, e, h⟩ := h; exact ⟨r, us, e, RDs.erase hF _ _ _ _ _ h hL⟩
theorem ArgsR.frz {F : Nat → Prop} {w : World} {v : V} {post : List Arg} : ∀ {pre : List Arg} {us : List Value} {M : List Nat}, ArgsR F w (pre ++ .mv v :: post) us M → ∃ A B C, M = A ++ (B ++ C) ∧ ∀ F' : Nat → Prop, (∀ g, F g → F' g) → (∀ g ∈ B, F' g) → ArgsR F' w (pre ++ .sh v.erase :: post) us (A ++ C)
  | [], us, M, h => by
    simp only [List.nil_append, ArgsR, ArgR] at h
    obtain ⟨u, us', L1, L2, rfl, rfl, h1, h2⟩ := h
    refine ⟨[], L1, L2, rfl, fun F' hF hB => ?_⟩
    simp only [List.nil_append, ArgsR, ArgR]
    exact ⟨u, us', [], L2, rfl, rfl, ⟨rfl, h1.frz hF hB⟩, h2.grow hF⟩
  | x :: pre, us, M, h => by
    simp only [List.cons_append, ArgsR] at h
    obtain ⟨u, us', L1, L2, rfl, rfl, h1, h2⟩ := h
    obtain ⟨A, B, C, rfl, h3⟩ := ArgsR.frz h2
    refine ⟨L1 ++ A, B, C, by simp, fun F' hF hB => ?_⟩
    simp only [List.cons_append, ArgsR]
    refine ⟨u, us', L1, A ++ C, rfl, by simp, ?_, h3 F' hF hB⟩
    cases x with
    | sh v => exact ⟨h1.1, h1.2.grow hF⟩
    | mv v => exact VR.grow hF h1
    | io d => obtain ⟨r, h1⟩ := h1; exact ⟨r, RD.same hF (fun _ _ => rfl) _ _ _ _ h1 (fun _ _ => rfl)⟩
theorem CallH.froze {K : FuncId} (pre : List Arg) {v : V} {post : List Arg} {rs : List V} (h : CallH P K (pre ++ .sh v.erase :: post) rs) : CallH P K (pre ++ .mv v :: post) rs := by
  intro w vs M F hF hargs hnd hM
  obtain ⟨A, B, C, rfl, h2⟩ := hargs.frz
  simp only [List.nodup_append, List.mem_append] at hnd
  refine (h w vs (A ++ C) (fun g => F g ∨ g ∈ B) (fun g hg => ?_) (h2 _ (fun g hg => .inl hg) (fun g hg => .inr hg)) ?_ (fun g hg => hM g ?_)).mono ?_
  · rcases hg with hg | hg
    · exact ⟨(hF g hg).1, fun hm => (hF g hg).2 (by simp only [List.mem_append] at hm ⊢; grind)⟩
    · exact ⟨hM g (by simp [hg]), fun hm => by simp only [List.mem_append] at hm; grind⟩
  · simp only [List.nodup_append, List.mem_append]
    grind
  · simp only [List.mem_append] at hg ⊢; grind
  · rintro e w' ⟨F', us, Lr, e1, hk, hF1, hF2, hv, hn, hL⟩
    refine ⟨F', us, Lr, e1, ⟨hk.os, hk.tape, hk.output, hk.size, fun g hg hn => hk.block g hg (fun hm => hn ?_), hk.drawn⟩, fun g hg => hF1 g (.inl hg), fun g hg => ⟨(hF2 g hg).1, ?_⟩, hv, hn, fun g hg => ⟨(hL g hg).1, (hL g hg).2.1, ?_⟩⟩
    · simp only [List.mem_append] at hm ⊢; grind
    · rcases (hF2 g hg).2 with (q | q) | q | q
      · exact .inl q
      · exact .inr (.inl (by simp [q]))
      · simp only [List.mem_append] at q ⊢; grind
      · exact .inr (.inr q)
    · rcases (hL g hg).2.2 with q | q
      · simp only [List.mem_append] at q ⊢; grind
      · exact .inr q
end
end Go.Pv
namespace Go.Proofs.YtinenidbgmddhaaGreat
set_option maxHeartbeats 20000000
open Go.Pv
open Go.ChangeShapes Go.WideShapes Go.ChangeAt Go.RowKit
attribute [local irreducible] RunU WpA Step CallG CallNG Done DoneN DoneF CallF StepX
instance fnOk63 : FnOk Tryz.prog 63 := ⟨_, Tryz.func63, rfl, by decide⟩
instance fnOk27 : FnOk Tryz.prog 27 := ⟨_, Tryz.func27, rfl, by decide⟩
attribute [local irreducible] decStrict decFalls decIsBr decWithin Strict Falls IsBr Within IsCu
theorem cellsF_cons (c : CuP) (l : List CuP) : cellsF (c :: l) = .sl false 1 (LLs c.1) :: .sl false 1 (LLs c.2) :: cellsF l := rfl
theorem cellsF_drop : ∀ (l : List CuP) (k : Nat), (cellsF l).drop (k * 2) = cellsF (l.drop k)
  | l, 0 => by simp
  | [], k + 1 => by simp [cellsF]
  | c :: l, k + 1 => by
    rw [cellsF_cons, show (k + 1) * 2 = k * 2 + 1 + 1 by omega, List.drop_succ_cons, List.drop_succ_cons, cellsF_drop l k, List.drop_succ_cons]
theorem cellsF_take : ∀ (l : List CuP) (k : Nat), (cellsF l).take (k * 2) = cellsF (l.take k)
  | l, 0 => by simp [cellsF]
  | [], k + 1 => by simp [cellsF]
  | c :: l, k + 1 => by
    rw [cellsF_cons, show (k + 1) * 2 = k * 2 + 1 + 1 by omega, List.take_succ_cons, List.take_succ_cons, cellsF_take l k, List.take_succ_cons, cellsF_cons]
abbrev gC (l : List CuP) (j : Nat) : CuP := l.getD j ([], [])
theorem cellsF_at {l : List CuP} {j : Nat} (h : j < l.length) : ((cellsF l).drop (j * 2)).take 2 = [.sl false 1 (LLs (gC l j).1), .sl false 1 (LLs (gC l j).2)] := by
  have e : (l.drop j).take 1 = [gC l j] := by
    rw [List.drop_eq_getElem_cons h, List.take_succ_cons, List.take_zero, gC, List.getD_eq_getElem?_getD, List.getElem?_eq_getElem h]
    rfl
  rw [cellsF_drop, show (2 : Nat) = 1 * 2 from rfl, cellsF_take, e]
  rfl
section
variable {P : Program} {n : NN} {nid nx : Nat} {st : Nat → AV}
theorem step_loads_F {d t j : Nat} {T : TypeId} {l : List CuP} {ty pos aft g} [StructTy P T 2] (h : st t = .sptr (cellsF l) (j * 2)) (hj : j < l.length) (hd : n d = true) :
    Step P n ⟨some d, .load T (.tmp t), ty, pos, aft, g⟩ nid st [t] [(d, .agg [.c (.sl false 1 (LLs (gC l j).1)), .c (.sl false 1 (LLs (gC l j).2))])] := by
  have := step_loads_sh (P := P) (n := n) (nid := nid) (d := d) (ty := ty) (pos := pos) (aft := aft) (g := g) (T := T) (sz := 2) h (by rw [cellsF_len]; omega) hd
  rwa [cellsF_at hj] at this
theorem step_slice_F {l0 : List CuP} {d t l h : Nat} {T : TypeId} {lo hi : Option Operand} {r1 r2 : List Nat} {ty pos aft g} [SliceTy P T 2] (ht : st t = .c (.sl false 2 (cellsF l0))) (hlo : BdL st lo r1 l) (hhi : BdH st l0.length hi r2 h) (h1 : l ≤ h) (h2 : h ≤ l0.length) (hd : n d = true) :
    Step P n ⟨some d, .slice T (.tmp t) lo hi none, ty, pos, aft, g⟩ nid st (t :: (r1 ++ r2)) [(d, .c (.sl false 2 (cellsF ((l0.drop l).take (h - l)))))] := by
  have := step_slice_sh2 (P := P) (n := n) (nid := nid) (d := d) (ty := ty) (pos := pos) (aft := aft) (g := g) (T := T) ht (cellsF_len l0) hlo hhi h1 h2 hd
  rwa [cellsF_drop, cellsF_take] at this
end
structure OkX (n : Nat) (b : CuP) : Prop where
  l1 : b.1.length = n
  l2 : b.2.length = n
  r1 : ∀ i, (b.1.getD i []).length ≤ 1000
  r2 : ∀ i, i < n → (b.2.getD i []).length = n
theorem OkX.cu {n : Nat} {b : CuP} (h : OkX n b) (hn : n ≤ 1000) : OkCu n b where
  l1 := h.l1
  l2 := h.l2
  r1 := h.r1
  r2 := fun i => by
    by_cases hi : i < n
    · rw [h.r2 i hi]; omega
    · rw [List.getD_eq_getElem?_getD, List.getElem?_eq_none (by have := h.l2; omega)]; simp
theorem prtP_okX (B C : List (List Int)) (n : Nat) (hb : ∀ i, (B.getD i []).length ≤ 1000) (o : List Int) (ho : o.length = n) : OkX n (prtP B C o) := by
  refine ⟨by simp only [prtP, pzB_len, ho], by simp only [prtP, pzC_len, ho], fun i => ?_, fun i hi => ?_⟩
  · simp only [prtP, pzB, List.getD_eq_getElem?_getD, List.getElem?_map]
    cases (List.range o.length)[i]? with
    | none => simp
    | some t => simpa [List.getD_eq_getElem?_getD] using hb _
  · simp only [prtP, pzC, List.getD_eq_getElem?_getD, List.getElem?_map, List.getElem?_range (show i < o.length by omega), Option.map_some, Option.getD_some]
    rw [pzR_len, ho]
theorem lstK_okX (B C : List (List Int)) (n : Nat) (hb : ∀ i, (B.getD i []).length ≤ 1000) : ∀ (k : Nat) (b : CuP) (o : List Int), o.length + k = n → OkX n b → OkX n (lstK B C n k b o)
  | 0, b, o, ho, h => by
    rw [lstK, lst1]
    split
    · exact prtP_okX B C n hb o ho
    · exact h
  | k + 1, b, o, ho, h => by
    have : ∀ j, OkX n (lstJ B C n k b o j) := fun j => by
      induction j with
      | zero => exact h
      | succ j ih =>
        rw [lstJ_succ]
        split
        · exact ih
        · exact lstK_okX B C n hb k _ _ (by simp; omega) ih
    exact this n
def OkP (c : CuP) : Prop := ∃ n, n ≤ 6 ∧ OkX n c
theorem OkP.ls {c : CuP} (h : OkP c) : OkP (lsS c.1 c.2) := by
  obtain ⟨n, hn, h⟩ := h
  refine ⟨n, hn, ?_⟩
  unfold lsS
  rw [h.l1]
  exact lstK_okX c.1 c.2 n h.r1 n c [] (by simp) h
theorem OkP.key {c : CuP} (h : OkP c) : (keyC c.1 c.2).length ≤ 1000000000 := by
  obtain ⟨n, hn, h⟩ := h
  exact keyC_lenS n (by omega) c (h.cu (by omega))
theorem OkP.flat {c : CuP} (h : OkP c) : CallA Tryz.prog 38 [aCu c.1 c.2] [rL (keyC c.1 c.2)] [] := by
  obtain ⟨n, hn, h⟩ := h
  have h2 := h.cu (by omega)
  exact l10Flat_c c.1 c.2 (by rw [h.l1]; omega) (by rw [h.l2]; omega) h2.r1 h2.r2
theorem OkP.least {c : CuP} (h : OkP c) : CallF Tryz.prog 39 [aCu c.1 c.2, aCu c.1 c.2, .mv (.one (.sl true 1 []))] [rCuF (lsS c.1 c.2)] := by
  obtain ⟨n, hn, h⟩ := h
  unfold lsS
  rw [h.l1]
  exact l10Least_c c.1 c.2 n (by omega) h.l1 h.l2 h.r1 h.r2 n c [] (by simp) (fun i hi => by simp at hi) (h.cu (by omega))
theorem OkP.part {c : CuP} (h : OkP c) : CallA Tryz.prog 59 [aCu c.1 c.2, aL (firP c.1.length)] [rCuv c.1 c.2] [] := by
  obtain ⟨n, hn, h⟩ := h
  have hp := l09Part_c c.1 c.2 (firP c.1.length) n (by omega) (by rw [firP_len, h.l1]; omega) (fun i hi => by rw [firP_len] at hi; rw [firP_at _ _ hi]; rw [h.l1] at hi; omega) h.l1 h.l2 h.r1 h.r2
  rw [firP_len, pzB_fir, h.l1, pzC_fir c.2 h.l2 h.r2] at hp
  rw [h.l1]
  exact hp
theorem OkP.len {c : CuP} (h : OkP c) : c.1.length ≤ 6 := by
  obtain ⟨n, hn, h⟩ := h
  rw [h.l1]; exact hn
theorem before_c {c d : CuP} (hc : OkP c) (hd : OkP d) : CallA Tryz.prog 63 [aCu c.1 c.2, aCu d.1 d.2] [rB (befS c d)] [] := by
  have h1 := hc.flat
  have h2 := hd.flat
  have h3 := l01Less_c (keyC c.1 c.2) (keyC d.1 d.2) hc.key hd.key
  have l1 := hc.len
  have l2 := hd.len
  have e : befS c d = if c.1.length ≠ d.1.length then decide (c.1.length < d.1.length) else decide (cmpLv (keyC c.1 c.2) (keyC d.1 d.2) < 0) := rfl
  obtain ⟨c1, c2⟩ := c
  obtain ⟨d1, d2⟩ := d
  dsimp only at *
  rw [e]
  clear e hc hd
  by_cases hne : c1.length = d1.length
  · rw [if_neg (fun h => h hne)]
    generalize decide (cmpLv (keyC c1 c2) (keyC d1 d2) < 0) = b at *
    generalize keyC c1 c2 = k1 at *
    generalize keyC d1 d2 = k2 at *
    refine callA_of _ Tryz.func63 rfl Tryz.ntmps63 solid_any ?_
    repeat' (first | refine Two.mk (fun _ => ?_) (fun _ => ?_) | (guard_target =~ AtN 20; first | refine RunU.cons (step_call (h1) (.sh .nil) (.shAgg rfl aggs_any .nil) rfl) ?_) | (guard_target =~ AtN 22; first | refine RunU.cons (step_call (h2) (.sh .nil) (.shAgg rfl aggs_any .nil) rfl) ?_) | (guard_target =~ CallN_; first | refine RunU.cons (step_call (h3) (.sh (.sh .nil)) (.sh shows_any (.sh shows_any .nil)) rfl) ?_) | refine goA ?_ | (refine neA ?_; first | refine nxA ?_ | refine Done.ret (.one res_any .nil) (.sh (.sh .nil)) ?_ rfl) | fail)
    all_goals first | rfl | (exfalso; omega)
  · rw [if_pos hne]
    clear h1 h2 h3
    refine callA_of _ Tryz.func63 rfl Tryz.ntmps63 solid_any ?_
    repeat' (first | refine Two.mk (fun _ => ?_) (fun _ => ?_) | refine goA ?_ | (refine neA ?_; first | refine nxA ?_ | refine Done.ret (.one res_any .nil) (.sh (.sh .nil)) ?_ rfl) | fail)
    all_goals try (exfalso; omega)
    congr 4
    exact decide_eq_decide.2 (by omega)
theorem erases_F : ∀ l : List CuP, D.erases (cellsF l) = cellsF l
  | [] => rfl
  | c :: l => by
    rw [cellsF_cons]
    simp only [D.erases, D.erase, erases_LLs, erases_F l]
theorem erases_app (A B : List D) : D.erases (A ++ B) = D.erases A ++ D.erases B := by rw [D.erases_eq, D.erases_eq, D.erases_eq, List.map_append]
theorem cellsF_app2 (A B : List CuP) : cellsF (A ++ B) = cellsF A ++ cellsF B := by simp [cellsF]
theorem atS_le (x : CuP) : ∀ l, atS x l ≤ l.length
  | [] => by simp [atS]
  | y :: l => by
    have := atS_le x l
    rw [atS]
    split <;> simp <;> omega
theorem atS_lt {x : CuP} : ∀ {l : List CuP} {t : Nat}, t < atS x l → befS (gC l t) x = true
  | [], t, h => by simp [atS] at h
  | y :: l, t, h => by
    rw [atS] at h
    split at h
    · rename_i hb
      cases t with
      | zero => simpa [gC] using hb
      | succ t => simpa [gC] using atS_lt (l := l) (t := t) (by omega)
    · omega
theorem atS_at {x : CuP} : ∀ {l : List CuP}, atS x l < l.length → befS (gC l (atS x l)) x = false
  | [], h => by simp at h
  | y :: l, h => by
    rw [atS] at h ⊢
    split
    · rename_i hb
      rw [if_pos hb] at h
      have := atS_at (x := x) (l := l) (by simpa using h)
      simpa [gC] using this
    · rename_i hb
      simpa [gC] using hb
def sifTo (l : List CuP) (j : Nat) : List CuP := (l.take j).foldl (fun out c => insS out (lsS c.1 c.2)) []
theorem sifTo_succ {l : List CuP} {j : Nat} (h : j < l.length) : sifTo l (j + 1) = insS (sifTo l j) (lsS (gC l j).1 (gC l j).2) := by
  unfold sifTo
  rw [List.take_add_one, List.getElem?_eq_getElem h, List.foldl_append]
  simp [gC, List.getD_eq_getElem?_getD, h]
theorem insS_in {out : List CuP} {x : CuP} (ho : ∀ c ∈ out, OkP c) (hx : OkP x) : (∀ c ∈ insS out x, OkP c) ∧ (insS out x).length ≤ out.length + 1 := by
  unfold insS
  split
  · exact ⟨ho, by omega⟩
  · refine ⟨fun c hc => ?_, ?_⟩
    · simp only [List.mem_append, List.mem_singleton] at hc
      rcases hc with (hc | hc) | hc
      · exact ho c (List.mem_of_mem_take hc)
      · rw [hc]; exact hx
      · exact ho c (List.mem_of_mem_drop hc)
    · have := atS_le x out
      simp only [List.length_append, List.length_take, List.length_drop, List.length_singleton]
      omega
theorem gC_mem {l : List CuP} {j : Nat} (h : j < l.length) : gC l j ∈ l := by
  rw [gC, List.getD_eq_getElem?_getD, List.getElem?_eq_getElem h]; exact List.getElem_mem h
theorem sifTo_ok {l : List CuP} (h : ∀ c ∈ l, OkP c) : ∀ j, j ≤ l.length → (∀ c ∈ sifTo l j, OkP c) ∧ (sifTo l j).length ≤ j
  | 0, _ => by simp [sifTo]
  | j + 1, hj => by
    have ih := sifTo_ok h j (by omega)
    have := insS_in ih.1 (h _ (gC_mem (show j < l.length by omega))).ls
    rw [sifTo_succ (by omega)]
    exact ⟨this.1, by omega⟩
theorem ins_erase (out : List CuP) (x : CuP) (a : Nat) : (D.sl true 2 (cellsF ((out.drop 0).take (a - 0)) ++ ([.sl true 1 (LL x.1), .sl true 1 (LL x.2)] ++ cellsF ((out.drop a).take (out.length - a))))).erase = .sl false 2 (cellsF (out.take a ++ [x] ++ out.drop a)) := by
  show D.sl false 2 (D.erases _) = _
  rw [erases_app, erases_app, erases_F, erases_F, cellsF_app2, cellsF_app2, List.append_assoc]
  simp only [D.erases, D.erase, erases_LL, List.drop_zero, Nat.sub_zero]
  rw [List.take_of_length_le (l := out.drop a) (by rw [List.length_drop]; omega)]
  rfl
theorem c_F {l l' : List CuP} (h : l = l') : AV.c (.sl false 2 (cellsF l)) = AV.c (.sl false 2 (cellsF l')) := by rw [h]
set_option maxRecDepth 100000 in
theorem l19All_c (m : Int) (hm : 0 ≤ m ∧ m ≤ 10) (all : List CuP) (hE : enS m = some all) (hL : (specL m).length ≤ 1000) (hok : ∀ c ∈ all, OkP c) (hl : all.length ≤ 1000) : CallF Tryz.prog 27 [aI m] [.one (.sl false 2 (cellsF (sifS all)))] := by
  have hLi := list_c m (by omega)
  have hC := CallH.froze (v := .agg [.sl true 1 [], .sl true 1 []]) [aLL (specL m), aI ((0 : Nat) : Int)] (cur_c m hm (specL m) hL 7 0 [] [] [] [] all OkE.nil hE)
  have hC : CallH Tryz.prog 61 ([] ++ .sh (V.erase (.one (.sl true 1 (LL (specL m))))) :: [aI ((0 : Nat) : Int), .mv (.agg [.sl true 1 [], .sl true 1 []]), aI m, .mv (.one (.sl true 2 []))]) [rF all] := by
    show CallH _ _ [.sh (.one (.sl false 1 (D.erases (LL (specL m))))), aI ((0 : Nat) : Int), .mv (.agg [.sl true 1 [], .sl true 1 []]), aI m, .mv (.one (.sl true 2 []))] _
    rw [erases_LL]
    exact hC
  have hC := CallH.froze [] hC
  change CallH _ _ [.mv (.one (.sl true 1 (LL (specL m)))), aI ((0 : Nat) : Int), .mv (.agg [.sl true 1 [], .sl true 1 []]), aI m, .mv (.one (.sl true 2 []))] _ at hC
  have hso := sifTo_ok hok
  have hss := fun j (h : j < all.length) => sifTo_succ h
  have hfin : sifS all = sifTo all all.length := by rw [sifTo, List.take_length]; rfl
  rw [hfin]
  rw [show ((0 : Nat) : Int) = 0 from rfl] at hC
  generalize specL m = Bs at *
  clear hE hL hfin
  refine callF_of _ Tryz.func27 rfl Tryz.ntmps27 rfl ?_
  repeat' (first | refine Two.mk (fun _ => ?_) (fun _ => ?_) | (guard_target =~ IsW; first | refine WpA.freezeC 5 3 (.sl false 2 (cellsF all)) rfl rfl rfl (by show D.sl false 2 (D.erases (cellsF all)) = _; rw [erases_F]) ?_ | refine WpA.freezeC 5 4 (.sl false 2 (cellsF [])) rfl rfl rfl (by rfl) ?_) | (guard_target =~ AtN 10; first | refine RunU.cons (step_call (hLi) (.sh .nil) (.sh shows_any .nil) rfl) ?_) | (guard_target =~ AtN 14; first | refine RunU.consX (step_callH (hC) (.mv give_any (.sh (.mvAgg rfl rfl (.sh (.mv give_any .nil))))) (.mv (.sh (by first | exact .lit rfl rfl | exact .c rfl) (.mv (.sh (by first | exact .lit rfl rfl | exact .c rfl) (.mv .nil))))) rfl rfl) ?_) | (guard_target =~ IsN; first | refine RunU.cons (step_slice_empty rfl) ?_) | refine goA ?_ | (guard_target =~ IsG; first | refine psA ?_ | (guard_target =~ AtS 10; first | refine RunU.doit rfl rfl (step_call (hLi) (.sh .nil) (.sh shows_any .nil) rfl) ?_) | (guard_target =~ AtS 14; first | refine RunU.doit rfl rfl (step_callH (hC) (.mv give_any (.sh (.mvAgg rfl rfl (.sh (.mv give_any .nil))))) (.mv (.sh (by first | exact .lit rfl rfl | exact .c rfl) (.mv (.sh (by first | exact .lit rfl rfl | exact .c rfl) (.mv .nil))))) rfl rfl) ?_) | refine RunU.doit rfl rfl (step_slice_empty rfl) ?_ | refine gdA ?_) | (refine neA ?_; first | refine nxA ?_ | refine DoneF.ret (.one res_any .nil) rfl | refine DoneF.ret (.one res_any .nil) ?_ | refine DoneF.normal (.one res_any .nil) rfl | refine DoneF.normal (.one res_any .nil) ?_) | fail)
  all_goals try (exfalso; omega)
  refine WpA.loop_slots (ι := Nat) (fun j => [(3, .c (.sl false 2 (cellsF all))), (4, .c (.sl false 2 (cellsF (sifTo all j)))), (5, vQJ j)]) (fun j => j ≤ all.length) (fun j => all.length - j) 0 (by omega) ⟨rfl, by exact rfl, rfl, trivial⟩ ?_
  intro j s nx hj
  have la := cellsF_len all
  obtain ⟨ho1, ho2⟩ := hso j hj
  by_cases hlt : j < all.length
  · have hcj := hok _ (gC_mem hlt)
    have hLe := hcj.least
    have hxo := hcj.ls
    have hsj := hss j hlt
    clear hso hss hcj hok
    generalize hx : lsS (gC all j).1 (gC all j).2 = x at *
    have lo := cellsF_len (sifTo all j)
    generalize hout : sifTo all j = out at *
    have hNu := numbers_c x.1.length (by have := hxo.len; omega)
    have hPa := hxo.part
    have hFx := hxo.flat
    have hkx := hxo.key
    have hin : insS out x = if atS x out < out.length ∧ keyC (out.getD (atS x out) ([], [])).1 (out.getD (atS x out) ([], [])).2 = keyC x.1 x.2 then out else out.take (atS x out) ++ [x] ++ out.drop (atS x out) := rfl
    have hle := atS_le x out
    have hbl := fun t (h : t < atS x out) => atS_lt h
    have hba := fun (h : atS x out < out.length) => atS_at h
    have hbc := fun t (h : t < out.length) => before_c (ho1 _ (gC_mem h)) hxo
    have hfl := fun t (h : t < out.length) => (ho1 _ (gC_mem h)).flat
    have hkl := fun t (h : t < out.length) => (ho1 _ (gC_mem h)).key
    clear ho1 hxo
    generalize hat : atS x out = at0 at *
    repeat' (first | refine Two.mk (fun _ => ?_) (fun _ => ?_) | (guard_target =~ AtN 31; first | refine RunU.consX (step_callF (hLe) (.sh (.sh (.mv give_any .nil))) (.sh (.agg rfl (by first | exact .nil | exact .cons .nil | exact .cons (.cons .nil) | exact .cons (.cons (.cons .nil)) | exact .cons (.cons (.cons (.cons .nil))) | exact .cons (.cons (.cons (.cons (.cons .nil)))))) (.sh (.agg rfl (by first | exact .nil | exact .cons .nil | exact .cons (.cons .nil) | exact .cons (.cons (.cons .nil)) | exact .cons (.cons (.cons (.cons .nil))) | exact .cons (.cons (.cons (.cons (.cons .nil)))))) (.mv .nil))) rfl rfl) ?_) | (guard_target =~ IsN; first | refine RunU.cons (step_slice_empty rfl) ?_ | refine RunU.cons (step_loads_F rfl (by assumption) rfl) ?_ | refine RunU.cons (step_len (.sh rfl) _ (cellsF_len _) (by decide) rfl) ?_) | refine goA ?_ | (guard_target =~ IsG; first | refine psA ?_ | (guard_target =~ AtS 31; first | refine RunU.doit rfl rfl (step_callF (hLe) (.sh (.sh (.mv give_any .nil))) (.sh (.agg rfl (by first | exact .nil | exact .cons .nil | exact .cons (.cons .nil) | exact .cons (.cons (.cons .nil)) | exact .cons (.cons (.cons (.cons .nil))) | exact .cons (.cons (.cons (.cons (.cons .nil)))))) (.sh (.agg rfl (by first | exact .nil | exact .cons .nil | exact .cons (.cons .nil) | exact .cons (.cons (.cons .nil)) | exact .cons (.cons (.cons (.cons .nil))) | exact .cons (.cons (.cons (.cons (.cons .nil)))))) (.mv .nil))) rfl rfl) ?_) | refine RunU.doit rfl rfl (step_slice_empty rfl) ?_ | refine RunU.doit rfl rfl (step_loads_F rfl (by assumption) rfl) ?_ | refine RunU.doit rfl rfl (step_len (.sh rfl) _ (cellsF_len _) (by decide) rfl) ?_ | refine gdA ?_) | (refine neA ?_; first | refine nxA ?_ | refine DoneF.ret (.one res_any .nil) rfl | refine DoneF.ret (.one res_any .nil) ?_ | refine DoneF.normal (.one res_any .nil) rfl | refine DoneF.normal (.one res_any .nil) ?_) | fail)
    all_goals try (exfalso; omega)
    refine WpA.loop_slots (ι := Nat × Nat) (fun q => [(3, .c (.sl false 2 (cellsF all))), (4, .c (.sl false 2 (cellsF out))), (5, vQJ j), (6, .own q.2 (.pt true [.sl false 1 (LLs x.1), .sl false 1 (LLs x.2)])), (7, vQJ q.1)]) (fun q => q.1 ≤ at0) (fun q => at0 - q.1) (0, _) (by simp) ⟨rfl, rfl, rfl, by exact rfl, rfl, trivial⟩ ?_
    rintro ⟨t, i6⟩ s nx ht
    dsimp only at ht ⊢
    by_cases htl : t < at0
    · have hto : t < out.length := by omega
      have hB := hbc t hto
      rw [hbl t htl] at hB
      clear hbl hba hbc hfl hkl hin hLe
      repeat' (first | refine Two.mk (fun _ => ?_) (fun _ => ?_) | (guard_target =~ CallN_; first | refine RunU.cons (step_call (hB) (.sh (.sh .nil)) (.shAgg rfl aggs_any (.shAgg rfl aggs_any .nil)) rfl) ?_) | (guard_target =~ IsN; first | refine RunU.cons (step_loads_F rfl (by assumption) rfl) ?_ | refine RunU.cons (step_len (.sh rfl) _ (cellsF_len _) (by decide) rfl) ?_) | refine goA ?_ | (guard_target =~ IsG; first | refine psA ?_ | (guard_target =~ CallS_; first | refine RunU.doit rfl rfl (step_call (hB) (.sh (.sh .nil)) (.shAgg rfl aggs_any (.shAgg rfl aggs_any .nil)) rfl) ?_) | refine RunU.doit rfl rfl (step_loads_F rfl (by assumption) rfl) ?_ | refine RunU.doit rfl rfl (step_len (.sh rfl) _ (cellsF_len _) (by decide) rfl) ?_ | refine gdA ?_) | (refine neA ?_; first | refine nxA ?_ | refine DoneF.ret (.one res_any .nil) rfl | refine DoneF.ret (.one res_any .nil) ?_ | refine DoneF.normal (.one res_any .nil) rfl | refine DoneF.normal (.one res_any .nil) ?_) | fail)
      all_goals try (exfalso; omega)
      all_goals exact ⟨(t + 1, i6), by simp only; omega, ⟨rfl, rfl, rfl, by exact rfl, int_eq (by simp), trivial⟩, by simp only; omega⟩
    · obtain rfl : t = at0 := by omega
      by_cases hto : t < out.length
      · have hB := hbc t hto
        rw [hba hto] at hB
        have hF := hfl t hto
        have hS := l01SameQ_c (keyC (gC out t).1 (gC out t).2) (keyC x.1 x.2) (hkl t hto) hkx
        clear hbl hba hbc hfl hkl hLe
        by_cases hk : keyC (gC out t).1 (gC out t).2 = keyC x.1 x.2
        · rw [decide_eq_true hk] at hS
          rw [if_pos ⟨hto, hk⟩] at hin
          repeat' (first | refine Two.mk (fun _ => ?_) (fun _ => ?_) | (guard_target =~ AtN 42; first | refine RunU.cons (step_call (hB) (.sh (.sh .nil)) (.shAgg rfl aggs_any (.shAgg rfl aggs_any .nil)) rfl) ?_) | (guard_target =~ AtN 55; first | refine RunU.cons (step_call (hF) (.sh .nil) (.shAgg rfl aggs_any .nil) rfl) ?_) | (guard_target =~ AtN 57; first | refine RunU.cons (step_call (hFx) (.sh .nil) (.shAgg rfl aggs_any .nil) rfl) ?_) | (guard_target =~ AtN 58; first | refine RunU.cons (step_call (hS) (.sh (.sh .nil)) (.sh shows_any (.sh shows_any .nil)) rfl) ?_) | (guard_target =~ IsN; first | refine RunU.cons (step_loads_F rfl (by assumption) rfl) ?_ | refine RunU.cons (step_len (.sh rfl) _ (cellsF_len _) (by decide) rfl) ?_) | refine goA ?_ | (guard_target =~ IsG; first | refine psA ?_ | (guard_target =~ AtS 42; first | refine RunU.doit rfl rfl (step_call (hB) (.sh (.sh .nil)) (.shAgg rfl aggs_any (.shAgg rfl aggs_any .nil)) rfl) ?_) | (guard_target =~ AtS 55; first | refine RunU.doit rfl rfl (step_call (hF) (.sh .nil) (.shAgg rfl aggs_any .nil) rfl) ?_) | (guard_target =~ AtS 57; first | refine RunU.doit rfl rfl (step_call (hFx) (.sh .nil) (.shAgg rfl aggs_any .nil) rfl) ?_) | (guard_target =~ AtS 58; first | refine RunU.doit rfl rfl (step_call (hS) (.sh (.sh .nil)) (.sh shows_any (.sh shows_any .nil)) rfl) ?_) | refine RunU.doit rfl rfl (step_loads_F rfl (by assumption) rfl) ?_ | refine RunU.doit rfl rfl (step_len (.sh rfl) _ (cellsF_len _) (by decide) rfl) ?_ | refine gdA ?_) | (refine neA ?_; first | refine nxA ?_ | refine DoneF.ret (.one res_any .nil) rfl | refine DoneF.ret (.one res_any .nil) ?_ | refine DoneF.normal (.one res_any .nil) rfl | refine DoneF.normal (.one res_any .nil) ?_) | fail)
          all_goals try (exfalso; omega)
          all_goals exact ⟨j + 1, by omega, ⟨rfl, by exact c_F (by rw [hsj, hin]), int_eq (by simp), trivial⟩, by omega⟩
        · rw [decide_eq_false hk] at hS
          rw [if_neg (fun q => hk q.2)] at hin
          repeat' (first | refine Two.mk (fun _ => ?_) (fun _ => ?_) | (guard_target =~ IsW; first | refine WpA.freezeC 20 4 (.sl false 2 (cellsF (insS out x))) rfl rfl rfl (by rw [hin]; exact ins_erase out x _) ?_) | (guard_target =~ AtN 42; first | refine RunU.cons (step_call (hB) (.sh (.sh .nil)) (.shAgg rfl aggs_any (.shAgg rfl aggs_any .nil)) rfl) ?_) | (guard_target =~ AtN 55; first | refine RunU.cons (step_call (hF) (.sh .nil) (.shAgg rfl aggs_any .nil) rfl) ?_) | (guard_target =~ AtN 57; first | refine RunU.cons (step_call (hFx) (.sh .nil) (.shAgg rfl aggs_any .nil) rfl) ?_) | (guard_target =~ AtN 58; first | refine RunU.cons (step_call (hS) (.sh (.sh .nil)) (.sh shows_any (.sh shows_any .nil)) rfl) ?_) | (guard_target =~ AtN 64; first | refine RunU.cons (step_call (hNu) (.sh .nil) (.sh shows_any .nil) rfl) ?_) | (guard_target =~ AtN 65; first | refine RunU.cons (step_call (hPa) (.sh (.sh .nil)) (.shAgg rfl aggs_any (.sh shows_any .nil)) rfl) ?_) | (guard_target =~ IsN; first | refine RunU.cons (step_slice_empty rfl) ?_ | refine RunU.cons (step_slice_F rfl (.at_ rfl rfl) .no (by omega) (by omega) rfl) ?_ | refine RunU.cons (step_slice_F rfl .no (.at_ rfl rfl) (by omega) (by omega) rfl) ?_ | refine RunU.cons (step_append_sh (.own rfl) (by exact rfl) (by simp only [List.length_append, List.length_cons, List.length_nil, List.length_flatten, List.map_cons, List.map_nil, List.sum_cons, List.sum_nil, cellsF_len, List.length_take, List.length_drop]; omega) rfl) ?_ | refine RunU.cons (step_append_give (.own rfl) (.als rfl rfl) (by simp only [List.length_append, List.length_cons, List.length_nil, List.length_flatten, List.map_cons, List.map_nil, List.sum_cons, List.sum_nil, cellsF_len, List.length_take, List.length_drop]; omega) rfl) ?_ | refine RunU.cons (step_loads_F rfl (by assumption) rfl) ?_ | refine RunU.cons (step_len (.sh rfl) _ (cellsF_len _) (by decide) rfl) ?_) | refine goA ?_ | (guard_target =~ IsG; first | refine psA ?_ | (guard_target =~ AtS 42; first | refine RunU.doit rfl rfl (step_call (hB) (.sh (.sh .nil)) (.shAgg rfl aggs_any (.shAgg rfl aggs_any .nil)) rfl) ?_) | (guard_target =~ AtS 55; first | refine RunU.doit rfl rfl (step_call (hF) (.sh .nil) (.shAgg rfl aggs_any .nil) rfl) ?_) | (guard_target =~ AtS 57; first | refine RunU.doit rfl rfl (step_call (hFx) (.sh .nil) (.shAgg rfl aggs_any .nil) rfl) ?_) | (guard_target =~ AtS 58; first | refine RunU.doit rfl rfl (step_call (hS) (.sh (.sh .nil)) (.sh shows_any (.sh shows_any .nil)) rfl) ?_) | (guard_target =~ AtS 64; first | refine RunU.doit rfl rfl (step_call (hNu) (.sh .nil) (.sh shows_any .nil) rfl) ?_) | (guard_target =~ AtS 65; first | refine RunU.doit rfl rfl (step_call (hPa) (.sh (.sh .nil)) (.shAgg rfl aggs_any (.sh shows_any .nil)) rfl) ?_) | refine RunU.doit rfl rfl (step_slice_empty rfl) ?_ | refine RunU.doit rfl rfl (step_slice_F rfl (.at_ rfl rfl) .no (by omega) (by omega) rfl) ?_ | refine RunU.doit rfl rfl (step_slice_F rfl .no (.at_ rfl rfl) (by omega) (by omega) rfl) ?_ | refine RunU.doit rfl rfl (step_append_sh (.own rfl) (by exact rfl) (by simp only [List.length_append, List.length_cons, List.length_nil, List.length_flatten, List.map_cons, List.map_nil, List.sum_cons, List.sum_nil, cellsF_len, List.length_take, List.length_drop]; omega) rfl) ?_ | refine RunU.doit rfl rfl (step_append_give (.own rfl) (.als rfl rfl) (by simp only [List.length_append, List.length_cons, List.length_nil, List.length_flatten, List.map_cons, List.map_nil, List.sum_cons, List.sum_nil, cellsF_len, List.length_take, List.length_drop]; omega) rfl) ?_ | refine RunU.doit rfl rfl (step_loads_F rfl (by assumption) rfl) ?_ | refine RunU.doit rfl rfl (step_len (.sh rfl) _ (cellsF_len _) (by decide) rfl) ?_ | refine gdA ?_) | (refine neA ?_; first | refine nxA ?_ | refine DoneF.ret (.one res_any .nil) rfl | refine DoneF.ret (.one res_any .nil) ?_ | refine DoneF.normal (.one res_any .nil) rfl | refine DoneF.normal (.one res_any .nil) ?_) | fail)
          all_goals try (exfalso; omega)
          all_goals exact ⟨j + 1, by omega, ⟨rfl, by exact c_F hsj.symm, int_eq (by simp), trivial⟩, by omega⟩
      · rw [if_neg (fun q => hto q.1)] at hin
        clear hbl hba hbc hfl hkl hLe
        repeat' (first | refine Two.mk (fun _ => ?_) (fun _ => ?_) | (guard_target =~ IsW; first | refine WpA.freezeC 20 4 (.sl false 2 (cellsF (insS out x))) rfl rfl rfl (by rw [hin]; exact ins_erase out x _) ?_) | (guard_target =~ AtN 64; first | refine RunU.cons (step_call (hNu) (.sh .nil) (.sh shows_any .nil) rfl) ?_) | (guard_target =~ AtN 65; first | refine RunU.cons (step_call (hPa) (.sh (.sh .nil)) (.shAgg rfl aggs_any (.sh shows_any .nil)) rfl) ?_) | (guard_target =~ IsN; first | refine RunU.cons (step_slice_empty rfl) ?_ | refine RunU.cons (step_slice_F rfl (.at_ rfl rfl) .no (by omega) (by omega) rfl) ?_ | refine RunU.cons (step_slice_F rfl .no (.at_ rfl rfl) (by omega) (by omega) rfl) ?_ | refine RunU.cons (step_append_sh (.own rfl) (by exact rfl) (by simp only [List.length_append, List.length_cons, List.length_nil, List.length_flatten, List.map_cons, List.map_nil, List.sum_cons, List.sum_nil, cellsF_len, List.length_take, List.length_drop]; omega) rfl) ?_ | refine RunU.cons (step_append_give (.own rfl) (.als rfl rfl) (by simp only [List.length_append, List.length_cons, List.length_nil, List.length_flatten, List.map_cons, List.map_nil, List.sum_cons, List.sum_nil, cellsF_len, List.length_take, List.length_drop]; omega) rfl) ?_ | refine RunU.cons (step_loads_F rfl (by assumption) rfl) ?_ | refine RunU.cons (step_len (.sh rfl) _ (cellsF_len _) (by decide) rfl) ?_) | refine goA ?_ | (guard_target =~ IsG; first | refine psA ?_ | (guard_target =~ AtS 64; first | refine RunU.doit rfl rfl (step_call (hNu) (.sh .nil) (.sh shows_any .nil) rfl) ?_) | (guard_target =~ AtS 65; first | refine RunU.doit rfl rfl (step_call (hPa) (.sh (.sh .nil)) (.shAgg rfl aggs_any (.sh shows_any .nil)) rfl) ?_) | refine RunU.doit rfl rfl (step_slice_empty rfl) ?_ | refine RunU.doit rfl rfl (step_slice_F rfl (.at_ rfl rfl) .no (by omega) (by omega) rfl) ?_ | refine RunU.doit rfl rfl (step_slice_F rfl .no (.at_ rfl rfl) (by omega) (by omega) rfl) ?_ | refine RunU.doit rfl rfl (step_append_sh (.own rfl) (by exact rfl) (by simp only [List.length_append, List.length_cons, List.length_nil, List.length_flatten, List.map_cons, List.map_nil, List.sum_cons, List.sum_nil, cellsF_len, List.length_take, List.length_drop]; omega) rfl) ?_ | refine RunU.doit rfl rfl (step_append_give (.own rfl) (.als rfl rfl) (by simp only [List.length_append, List.length_cons, List.length_nil, List.length_flatten, List.map_cons, List.map_nil, List.sum_cons, List.sum_nil, cellsF_len, List.length_take, List.length_drop]; omega) rfl) ?_ | refine RunU.doit rfl rfl (step_loads_F rfl (by assumption) rfl) ?_ | refine RunU.doit rfl rfl (step_len (.sh rfl) _ (cellsF_len _) (by decide) rfl) ?_ | refine gdA ?_) | (refine neA ?_; first | refine nxA ?_ | refine DoneF.ret (.one res_any .nil) rfl | refine DoneF.ret (.one res_any .nil) ?_ | refine DoneF.normal (.one res_any .nil) rfl | refine DoneF.normal (.one res_any .nil) ?_) | fail)
        all_goals try (exfalso; omega)
        all_goals exact ⟨j + 1, by omega, ⟨rfl, by exact c_F hsj.symm, int_eq (by simp), trivial⟩, by omega⟩
  · obtain rfl : j = all.length := by omega
    clear hso hss
    repeat' (first | refine Two.mk (fun _ => ?_) (fun _ => ?_) | (guard_target =~ IsN; first | refine RunU.cons (step_len (.sh rfl) _ (cellsF_len _) (by decide) rfl) ?_) | refine goA ?_ | (guard_target =~ IsG; first | refine psA ?_ | refine RunU.doit rfl rfl (step_len (.sh rfl) _ (cellsF_len _) (by decide) rfl) ?_ | refine gdA ?_) | (refine neA ?_; first | refine nxA ?_ | refine DoneF.ret (.one res_any .nil) rfl | refine DoneF.ret (.one res_any .nil) ?_ | refine DoneF.normal (.one res_any .nil) rfl | refine DoneF.normal (.one res_any .nil) ?_) | fail)
    all_goals first | rfl | (exfalso; omega; done) | skip
    show [V.one (D.sl false 2 (D.erases (cellsF (sifTo all all.length))))] = _
    rw [erases_F]
end Go.Proofs.YtinenidbgmddhaaGreat
