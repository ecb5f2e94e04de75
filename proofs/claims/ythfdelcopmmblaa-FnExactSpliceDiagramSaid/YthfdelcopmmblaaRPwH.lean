/- A recursive function value is made, laid into its own variable, and called. No condition. -/
import Derived.Test.YthfdelcopmmblaaRPwG
namespace Go.Pv
set_option linter.unusedVariables false
set_option linter.unusedSimpArgs false
open Go.RowKit
section
variable {P : Program} {n : NN} {st : Nat → AV} {nx : Nat} {Q : Exit → (Nat → AV) → Nat → Prop}
theorem WpA.recCall {id1 id2 : Nat} {K : FuncId} {T : TypeId} {ts : Array TypeId} {ty1 ty2 ty3 ty4 ty5 ty6 : TypeId} {pos1 pos2 pos3 pos4 pos5 pos6} {aft1 aft2 aft3 aft4 aft5 aft6} {k1 k2 : Value} {cs3 csS d7 d7' : List D} {c8 : D} {i7 i3 i8 : Nat} {rest : Code} [OneTy P T] [FnOk P K]
    (hc : CallR P K [k1, k2] (.pt true d7) csS (.pt true d7')) (h7 : st 7 = .own i7 (.pt true d7)) (h3 : st 3 = .own i3 (.pt true cs3)) (he : D.erases cs3 = csS) (h8 : st 8 = .own i8 (.pt true [c8])) (hx1 : st 2 = .c (.lit k1)) (hx2 : st 1 = .c (.lit k2))
    (n13 : n 13 = true) (n14 : n 14 = true) (n15 : n 15 = true) (n16 : n 16 = true) (n17 : n 17 = true)
    (hrest : WpA P n rest (puts st [(8, .dead), (13, .dead), (14, .dead), (15, .dead), (16, .dead), (17, .dead), (7, .own nx (.pt true d7'))]) (nx + 1) Q) :
    WpA P n (.seq (.region id1 #[⟨some 13, .makeFunc (.func K) #[] #[.tmp 7, .tmp 3, .tmp 8], ty1, pos1, aft1, none⟩, ⟨none, .store T (.tmp 8) (.tmp 13), ty2, pos2, aft2, none⟩] false)
      (.seq (.region id2 #[⟨some 14, .load T (.tmp 8), ty3, pos3, aft3, none⟩, ⟨some 15, .move (.tmp 2), ty4, pos4, aft4, none⟩, ⟨some 16, .move (.tmp 1), ty5, pos5, aft5, none⟩, ⟨some 17, .call ⟨.value (.tmp 14), #[.tmp 15, .tmp 16], ts⟩, ty6, pos6, aft6, none⟩] false) rest)) st nx Q := by
  intro f a w hn hrep
  obtain ⟨ρ, L, h⟩ := hrep
  subst hn
  have k7 := h.slots 7
  rw [h7] at k7
  simp only [SR] at k7
  have k3 := h.slots 3
  rw [h3] at k3
  simp only [SR] at k3
  have k8 := h.slots 8
  rw [h8] at k8
  simp only [SR, RD] at k8
  obtain ⟨e8, g8, us, L1, ety, e8', eL8, hb8, hr8⟩ := k8
  simp only [RDs] at hr8
  obtain ⟨u8, us', L1a, L1b, rfl, eL1, _, rfl, rfl⟩ := hr8
  have e1 : tmp a 2 = k1 := Lit.eval h (x := .tmp 2) hx1
  have e2 : tmp a 1 = k2 := Lit.eval h (x := .tmp 1) hx2
  have o1 : k1.oneCell' = true := by
    have := h.slots 2
    rw [hx1] at this
    simp only [SR, RD] at this
    obtain ⟨_, r, _, this, _⟩ := this
    exact this
  generalize hfv : recVal K (tmp a 7) (tmp a 3) (tmp a 8) = fv
  have ofv : fv.oneCell' = true := by rw [← hfv]; rfl
  have g8L : g8 ∈ L 8 := by rw [eL8]; simp
  have g8lt := (h.bound 8 g8 g8L).1
  -- the function value
  refine wp_seq (wp_region_lit (l := [_, _]) (wpList_plain rfl fun K1 hK1 => wp_of_value (u := fv) (w' := w) ?_ (hK1 _ _ (wpList_plain rfl fun K2 hK2 => wp_of_skip (w' := w.setCell ⟨g8, 0, none⟩ fv) ?_ (hK2 _ _ (wpList_nil ?_))))))
  · rw [← hfv]
    simp [execOp, Instr.makeFunc]
    exact ⟨rfl, rfl, rfl⟩
  · have q8 : (a.put (some 13) fv).eval (.tmp 8) = .pointer (some ⟨g8, 0, none⟩) := by
      show tmp (a.put (some 13) fv) 8 = _
      rw [tmp_put_other _ _ _ _ (by decide), e8']
    have q13 : (a.put (some 13) fv).eval (.tmp 13) = fv := tmp_put_same _ _ _ (h.size _ n13)
    simp only [execOp, q8, q13, Sem.run_bind, run_store_one w ⟨g8, 0, none⟩ u8 fv (by rw [cell_of_row w g8 0 _ ety (0, 0) hb8]; rfl) (by simp [World.frozen?, hb8]) ofv, Result.andThen_ok, Sem.run_pure]
  have hb8' : (w.setCell ⟨g8, 0, none⟩ fv).heap[g8]? = some (.cells #[fv] ety (0, 0)) := by
    rw [setCell_heap_same w g8 0 fv _ ety _ hb8]; rfl
  have hk1 := Keep.setCell w g8 0 fv
  have hsz1 : (w.setCell ⟨g8, 0, none⟩ fv).heap.size = w.heap.size := by simp [World.setCell]
  have hs1 : ∀ g, g ≠ g8 → Same w (w.setCell ⟨g8, 0, none⟩ fv) g := fun g hg => setCell_heap_other w g8 0 g fv hg
  have hne8 : ∀ t, t ≠ 8 → ∀ g ∈ L t, g ≠ g8 := fun t ht g hg e => h.disj t 8 ht g hg (by rw [e]; exact g8L)
  have hF8 : ∀ g, f.F g → g ≠ g8 := fun g hg e => (h.bound 8 g8 g8L).2 (by rw [← e]; exact hg)
  generalize w.setCell ⟨g8, 0, none⟩ fv = w1 at *
  show (Code.seq _ _).wp P _ _ _
  -- the call
  refine wp_seq (wp_region_lit (l := [_, _, _, _]) (wpList_plain rfl fun K3 hK3 => wp_of_value (u := fv) (w' := w1) ?_ (hK3 _ _ (wpList_plain rfl fun K4 hK4 => wp_of_value (u := k1) (w' := w1) ?_ (hK4 _ _ (wpList_plain rfl fun K5 hK5 => wp_of_value (u := k2) (w' := w1) ?_ (hK5 _ _ (wpList_plain rfl fun K6 hK6 => ?_))))))))
  · have q8 : ((a.put (some 13) fv).put none undef).eval (.tmp 8) = .pointer (some ⟨g8, 0, none⟩) := by
      show tmp (a.put (some 13) fv) 8 = _
      rw [tmp_put_other _ _ _ _ (by decide), e8']
    simp only [execOp, q8, Sem.run_bind, run_load_one w1 ⟨g8, 0, none⟩ fv (by rw [cell_of_row w1 g8 0 _ ety (0, 0) hb8']; rfl), Result.andThen_ok, Sem.run_pure]
  · have q : tmp (((a.put (some 13) fv).put none undef).put (some 14) fv) 2 = k1 := by
      rw [tmp_put_other _ _ _ _ (by decide)]
      show tmp (a.put (some 13) fv) 2 = _
      rw [tmp_put_other _ _ _ _ (by decide)]; exact e1
    rw [← q]; rfl
  · have q : tmp ((((a.put (some 13) fv).put none undef).put (some 14) fv).put (some 15) k1) 1 = k2 := by
      rw [tmp_put_other _ _ _ _ (by decide), tmp_put_other _ _ _ _ (by decide)]
      show tmp (a.put (some 13) fv) 1 = _
      rw [tmp_put_other _ _ _ _ (by decide)]; exact e2
    rw [← q]; rfl
  generalize ha4 : ((((a.put (some 13) fv).put none undef).put (some 14) fv).put (some 15) k1).put (some 16) k2 = a4
  have s14 : 14 < (a.put (some 13) fv).tmps.size := by rw [put_size]; exact h.size _ n14
  have s15 : 15 < a.tmps.size := h.size _ n15
  have s16 : 16 < a.tmps.size := h.size _ n16
  have s17 : 17 < a.tmps.size := h.size _ n17
  have z4 : a4.tmps.size = a.tmps.size := by rw [← ha4]; simp [put_size]
  have d4 : a4.defers = a.defers := by rw [← ha4]; simp [put_defers]
  have t4 : ∀ t, t ≠ 13 → t ≠ 14 → t ≠ 15 → t ≠ 16 → tmp a4 t = tmp a t := fun t h1 h2 h3 h4 => by
    rw [← ha4, tmp_put_other _ _ _ _ h4, tmp_put_other _ _ _ _ h3, tmp_put_other _ _ _ _ h2]
    show tmp (a.put (some 13) fv) t = _
    rw [tmp_put_other _ _ _ _ h1]
  have x14 : a4.eval (.tmp 14) = fv := by
    show tmp a4 14 = _
    rw [← ha4, tmp_put_other _ _ _ _ (by decide), tmp_put_other _ _ _ _ (by decide)]
    exact tmp_put_same _ _ _ (by simpa [put_size] using h.size _ n14)
  have x15 : a4.eval (.tmp 15) = k1 := by
    show tmp a4 15 = _
    rw [← ha4, tmp_put_other _ _ _ _ (by decide)]
    exact tmp_put_same _ _ _ (by simpa [put_size] using s15)
  have x16 : a4.eval (.tmp 16) = k2 := by
    show tmp a4 16 = _
    rw [← ha4]
    exact tmp_put_same _ _ _ (by simpa [put_size] using s16)
  refine wp_of_enter (run_call_val (x := .tmp 14) a4.eval #[tmp a 7, tmp a 3, tmp a 8] (x14.trans hfv.symm) w1) ?_
  have ea : (#[Operand.tmp 15, Operand.tmp 16] : Array Operand).map a4.eval ++ #[tmp a 7, tmp a 3, tmp a 8] = ([k1, k2] ++ [tmp a 7, tmp a 3, tmp a 8]).toArray := by
    apply Array.ext'
    simp [x15, x16]
  rw [ea]
  let G : Nat → Prop := fun g => g < w1.heap.size ∧ g ∉ L 7
  have hG3 : ∀ g ∈ L 3, G g := fun g hg => ⟨by rw [hsz1]; exact (h.bound 3 g hg).1, h.disj 3 7 (by decide) g hg⟩
  have hGF : ∀ g, f.F g → G g := fun g hg => ⟨by rw [hsz1]; exact h.F_lt hg, fun hm => (h.bound 7 g hm).2 hg⟩
  have hG8 : G g8 := ⟨by rw [hsz1]; exact g8lt, h.disj 8 7 (by decide) g8 g8L⟩
  have r7 : RD G w1 (.pt true d7) (ρ i7) (tmp a 7) (L 7) := RD.same hGF (fun g hg => hs1 g (hF8 g hg)) _ _ _ _ k7 (fun g hg => hs1 g (hne8 7 (by decide) g hg))
  have r3 : RD G w1 (.pt false csS) (ρ i3) (tmp a 3) [] := by
    have := RD.erase (F' := G) hGF _ _ _ _ (RD.same (fun _ h => h) (fun g hg => hs1 g (hF8 g hg)) _ _ _ _ k3 (fun g hg => hs1 g (hne8 3 (by decide) g hg))) hG3
    simpa only [D.erase, he] using this
  have r8 : ∃ r', RD G w1 (.pt false [.lit (recVal K (tmp a 7) (tmp a 3) (tmp a 8))]) r' (tmp a 8) [] := by
    rw [hfv]
    refine ⟨fun _ => undef, ?_⟩
    simp only [RD, RDs]
    refine ⟨trivial, ⟨g8, 0, none⟩, [fv], e8', hG8, fun j u hu => ?_, fv, [], [], [], rfl, rfl, ⟨rfl, ofv, rfl⟩, rfl, rfl⟩
    rw [addr_row, cell_of_row w1 g8 j _ ety (0, 0) hb8']
    simpa using hu
  refine (hc w1 (tmp a 7) (tmp a 3) (tmp a 8) (L 7) G (ρ i7) (fun g hg => hg) r7 ⟨_, r3⟩ r8 (h.nodup 7) (fun g hg => by rw [hsz1]; exact (h.bound 7 g hg).1)).mono ?_
  rintro e w2 ⟨Lo, rfl, hk2, hout, hnd, hL⟩
  refine ⟨_, rfl, hK6 _ _ (wpList_nil ?_)⟩
  generalize ha5 : a4.put (some 17) (retVal []) = a5
  have t5 : ∀ t, t ≠ 13 → t ≠ 14 → t ≠ 15 → t ≠ 16 → t ≠ 17 → tmp a5 t = tmp a t := fun t h1 h2 h3 h4 h5 => by
    rw [← ha5, tmp_put_other _ _ _ _ h5, t4 t h1 h2 h3 h4]
  refine hrest f a5 w2 rfl ⟨fun i => if i = nx then ρ i7 else ρ i, fun s => if s = 7 then Lo else if s = 8 ∨ (13 ≤ s ∧ s ≤ 17) then [] else L s, ?_⟩
  have hkk : Keep w (L 7 ++ L 8) w2 := by
    refine ⟨hk2.os.trans hk1.os, hk2.tape.trans hk1.tape, hk2.output.trans hk1.output, Nat.le_trans hk1.size hk2.size, fun g hg hm => ?_⟩
    simp only [List.mem_append, not_or] at hm
    exact (hk2.block g (by rw [hsz1]; exact hg) hm.1).trans (hs1 g (fun e => hm.2 (by rw [e]; exact g8L)))
  refine h.step (fun t => t = 7 ∨ t = 8 ∨ (13 ≤ t ∧ t ≤ 17)) (L 7 ++ L 8) _ _ _ w2 _ _ (by rw [← ha5, put_defers, d4]) (by rw [← ha5, put_size, z4]) (fun t ht => t5 t (by rintro rfl; rw [n13] at ht; cases ht) (by rintro rfl; rw [n14] at ht; cases ht) (by rintro rfl; rw [n15] at ht; cases ht) (by rintro rfl; rw [n16] at ht; cases ht) (by rintro rfl; rw [n17] at ht; cases ht)) hkk (fun g hg => ?_) (fun i hi => by rw [if_neg (by omega)]) (fun t ht => ?_) (fun t ht => ?_) (fun s u hs' hu hsu g hg hgu => ?_) (fun i hi => by omega) (fun t ht i hi => ?_)
  · rcases List.mem_append.1 hg with hg | hg
    · exact ⟨7, .inl rfl, hg⟩
    · exact ⟨8, .inr (.inl rfl), hg⟩
  · have n1 : t ≠ 7 := fun e => ht (.inl e)
    have n2 : t ≠ 8 := fun e => ht (.inr (.inl e))
    have n3 : ¬ (13 ≤ t ∧ t ≤ 17) := fun e => ht (.inr (.inr e))
    refine ⟨?_, t5 t (by omega) (by omega) (by omega) (by omega) (by omega), ?_⟩
    · simp only [puts]
      rw [put_other _ _ _ _ n1, put_other _ _ _ _ (by omega), put_other _ _ _ _ (by omega), put_other _ _ _ _ (by omega), put_other _ _ _ _ (by omega), put_other _ _ _ _ (by omega), put_other _ _ _ _ n2]
    · simp only [if_neg n1]
      rw [if_neg (fun e => e.elim n2 n3)]
  · by_cases e7 : t = 7
    · subst e7
      simp only [puts, put_same, SR, if_true]
      rw [t5 7 (by decide) (by decide) (by decide) (by decide) (by decide)]
      refine ⟨RD.same (fun g hg => by cases hg.1) (fun g hg => by cases hg.1) _ _ _ Lo hout (fun _ _ => rfl), hnd, fun g hg => ⟨(hL g hg).1, ?_⟩⟩
      rcases (hL g hg).2 with h' | h'
      · exact .inl ⟨7, .inl rfl, h'⟩
      · exact .inr (by rw [← hsz1]; exact h')
    · have hd : t = 8 ∨ (13 ≤ t ∧ t ≤ 17) := ht.resolve_left e7
      have hst : puts st [(8, .dead), (13, .dead), (14, .dead), (15, .dead), (16, .dead), (17, .dead), (7, .own nx (.pt true d7'))] t = .dead := by
        simp only [puts, put, if_neg e7]
        repeat (split; · rfl)
        omega
      rw [hst, if_neg e7, if_pos hd]
      exact ⟨by simp only [SR], List.nodup_nil, fun g hg => by simp at hg⟩
  · by_cases hsx : s = 7
    · have hu0 : u ≠ 7 := fun e => hsu (hsx.trans e.symm)
      rw [if_neg hu0, if_pos (hu.resolve_left hu0)] at hgu
      simp at hgu
    · rw [if_neg hsx, if_pos (hs'.resolve_left hsx)] at hg
      simp at hg
  · by_cases e7 : t = 7
    · subst e7
      simp only [puts, put_same, AV.ids, List.mem_singleton] at hi
      omega
    · have hd : t = 8 ∨ (13 ≤ t ∧ t ≤ 17) := ht.resolve_left e7
      have hst : puts st [(8, .dead), (13, .dead), (14, .dead), (15, .dead), (16, .dead), (17, .dead), (7, .own nx (.pt true d7'))] t = .dead := by
        simp only [puts, put, if_neg e7]
        repeat (split; · rfl)
        omega
      rw [hst] at hi
      simp [AV.ids] at hi
end
end Go.Pv
