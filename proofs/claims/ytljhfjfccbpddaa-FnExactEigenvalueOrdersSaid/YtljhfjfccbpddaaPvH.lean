/- New variables, new slices, longer slices, cut slices. No condition. -/
import Derived.Test.YtljhfjfccbpddaaPvG
namespace Go.Pv
set_option linter.unusedVariables false
set_option linter.unusedSimpArgs false
open Go.RowKit

section
variable {P : Program} {n : NN} {nid : Nat} {st : Nat → AV} {f : Fr} {X : Nat → Prop} {a : Act} {w : World} {ρ : Nat → Rho} {L : Nat → List Nat} {M : List Nat}

theorem alloc_new (w : World) (o : Obj) : (w.alloc o).heap[w.heap.size]? = some o := by
  show (w.heap.push o)[w.heap.size]? = some o
  simp

theorem oneCell_cells {v : Value} (h : v.oneCell' = true) : v.cells = #[v] := by cases v <;> simp [Value.oneCell'] at h <;> rfl

/-! ### A new variable -/
theorem step_box {d : Nat} {x : Operand} {T : TypeId} {dd : D} {rd : List Nat} {up : List (Nat × AV)} {ty pos aft g} (h : Give st x rd dd up) (hd : n d = true) :
    Step P n ⟨some d, .box T x, ty, pos, aft, g⟩ nid st rd (up ++ [(d, .own nid (.pt true [dd]))]) := by
  intro X st' hs hX f a w hn hrep K Q hK
  obtain ⟨ρ, L, hr⟩ := hrep
  subst hn
  obtain ⟨r, L', M1, hm, hv⟩ := hr.toM.give (h.agree hs)
  rw [puts_append] at hK
  rw [List.nil_append] at hm
  have hsame : ∀ g, g < w.heap.size → Same w (w.alloc (.cells #[a.eval x] T)) g := fun g hg => Below.heap_alloc w _ g hg
  refine wp_of_value (u := .pointer (some ⟨w.heap.size, 0, none⟩)) (w' := w.alloc (.cells #[a.eval x] T)) ?_
    (hm.put_root hK hd hX _ _ [] (by simp) (Keep.alloc w _) (fun π => match π with | [] => .pointer (some ⟨w.heap.size, 0, none⟩) | _ :: q => r q) (w.heap.size :: M1) ?_ ?_ ?_)
  · simp only [execOp, Instr.box, newVar, newRow, oneCell_cells hv.one, Sem.run_bind, run_newObj, Result.andThen_ok, Sem.run_pure]
    rfl
  · simp only [RD]
    refine ⟨trivial, w.heap.size, [a.eval x], M1, T, rfl, rfl, alloc_new w _, ?_⟩
    simp only [RDs]
    refine ⟨_, _, M1, [], rfl, by simp, ?_, rfl, rfl⟩
    exact RD.rho dd r _ _ M1 (RD.same (fun _ h => h) (fun g hg => hsame g (hm.rep.F_lt hg)) dd r _ M1 hv (fun g hg => hsame g (hm.bound g hg).1)) (fun π => rfl)
  · rw [List.nodup_cons]
    exact ⟨fun hg => by have := (hm.bound _ hg).1; omega, hm.nd⟩
  · intro g hg
    rw [List.mem_cons] at hg
    rcases hg with rfl | hg
    · exact ⟨by simp, .inr (Nat.le_refl _)⟩
    · exact ⟨by simp; have := (hm.bound g hg).1; omega, .inl hg⟩

/-- The cells of an aggregate that owns what it holds. -/
def AV.dat : AV → Option D
  | .c d => some d
  | .raw d => some d
  | _ => none
def AV.dats : List AV → Option (List D)
  | [] => some []
  | x :: l => match x.dat, AV.dats l with
    | some d, some ds => some (d :: ds)
    | _, _ => none

theorem SRs.dats {F : Nat → Prop} {w : World} {ρ : Nat → Rho} : ∀ (l : List AV) (ds : List D) (k : Nat) (vs : List Value) (L : List Nat), SRs F w ρ l vs L → AV.dats l = some ds → ∃ r, RDs F w ds k r vs L
  | [], ds, k, vs, L, h, hd => by
    simp only [AV.dats, Option.some.injEq] at hd
    subst hd
    simp only [SRs] at h
    exact ⟨fun _ => undef, by simpa only [RDs] using h⟩
  | x :: l, ds, k, vs, L, h, hd => by
    simp only [AV.dats] at hd
    cases hx : x.dat with
    | none => simp [hx] at hd
    | some d =>
      cases hl : AV.dats l with
      | none => simp [hx, hl] at hd
      | some ds' =>
        simp only [hx, hl, Option.some.injEq] at hd
        subst hd
        simp only [SRs] at h
        obtain ⟨v, vs', L1, L2, rfl, rfl, h1, h2⟩ := h
        obtain ⟨r2, h3⟩ := SRs.dats l ds' (k + 1) vs' L2 h2 hl
        have h4 : ∃ r1, RD F w d r1 v L1 := by
          cases x <;> simp [AV.dat] at hx
          · subst hx; simp only [SR] at h1; obtain ⟨rfl, r, h1⟩ := h1; exact ⟨r, h1⟩
          · subst hx; simp only [SR] at h1; exact h1
        obtain ⟨r1, h4⟩ := h4
        refine ⟨fun π => match π with | [] => undef | j :: q => if j = k then r1 q else r2 (j :: q), ?_⟩
        simp only [RDs]
        refine ⟨v, vs', L1, L2, rfl, rfl, RD.rho d r1 _ v L1 h4 (fun π => by simp [Rho.at]), RDs.rho ds' (k + 1) r2 _ vs' L2 h3 (fun j hj => ?_)⟩
        funext π
        simp [Rho.at, show j ≠ k from by omega]

theorem step_box_agg {d t : Nat} {T : TypeId} {l : List AV} {ds : List D} {ty pos aft g} (h : st t = .agg l) (hl : AV.dats l = some ds) (hd : n d = true) :
    Step P n ⟨some d, .box T (.tmp t), ty, pos, aft, g⟩ nid st [t] [(t, .dead), (d, .own nid (.pt true ds))] := by
  intro X st' hs hX f a w hn hrep K Q hK
  obtain ⟨ρ, L, hr⟩ := hrep
  subst hn
  have ht := hr.slots t
  rw [(hs t (by simp)).trans h] at ht
  simp only [SR] at ht
  obtain ⟨vs, e0, h1⟩ := ht
  obtain ⟨r, h2⟩ := h1.dats l ds 0 vs (L t) hl
  have hm := hr.toM.detach t .dead [] (L t) (by simp only [SR]) (by simp [AV.ids]) (fun g hg => by simpa using hg) List.nodup_nil (hr.nodup t) (by simp)
  rw [List.nil_append] at hm
  have hsame : ∀ g, g < w.heap.size → Same w (w.alloc (.cells vs.toArray T)) g := fun g hg => Below.heap_alloc w _ g hg
  refine wp_of_value (u := .pointer (some ⟨w.heap.size, 0, none⟩)) (w' := w.alloc (.cells vs.toArray T)) ?_
    (hm.put_root (K := K) (d := d) hK hd hX _ _ [] (by simp) (Keep.alloc w _) (fun π => match π with | [] => .pointer (some ⟨w.heap.size, 0, none⟩) | j :: q => r (j :: q)) (w.heap.size :: L t) ?_ ?_ ?_)
  · have e1 : a.eval (.tmp t) = _ := e0
    simp only [execOp, Instr.box, newVar, newRow, e1, Value.cells, Sem.run_bind, run_newObj, Result.andThen_ok, Sem.run_pure]
    rfl
  · simp only [RD]
    refine ⟨trivial, w.heap.size, vs, L t, T, rfl, rfl, alloc_new w _, ?_⟩
    exact RDs.rho ds 0 r _ vs _ (RDs.same (fun _ h => h) (fun g hg => hsame g (hr.F_lt hg)) ds 0 r vs _ h2 (fun g hg => hsame g (hr.bound t g hg).1)) (fun j _ => rfl)
  · rw [List.nodup_cons]
    exact ⟨fun hg => by have := (hr.bound t _ hg).1; omega, hr.nodup t⟩
  · intro g hg
    rw [List.mem_cons] at hg
    rcases hg with rfl | hg
    · exact ⟨by simp, .inr (Nat.le_refl _)⟩
    · exact ⟨by simp; have := (hr.bound t g hg).1; omega, .inl hg⟩

/-- A datum whose value is that of a zero cell. -/
def ZeroD : Value → D → Prop
  | .slice none 0 0, .sl true _ [] => True
  | u, .lit v => v = u ∧ u.oneCell' = true
  | _, _ => False
inductive ZeroDs : List Value → List D → Prop
  | nil : ZeroDs [] []
  | cons {u d us ds} : ZeroD u d → ZeroDs us ds → ZeroDs (u :: us) (d :: ds)
/-- The zero value of T, as data. -/
class ZeroTy (P : Program) (T : TypeId) (ds : outParam (List D)) : Prop where
  out : ∃ i z, P.info? T = some i ∧ i.zero = some z ∧ ZeroDs z.cells.toList ds

theorem ZeroD.rd {F : Nat → Prop} {w : World} {u : Value} {d : D} (h : ZeroD u d) : RD F w d (fun _ => u) u [] := by
  unfold ZeroD at h
  split at h
  · simp only [RD]; exact ⟨trivial, [], [], [], rfl, .inl ⟨rfl, rfl, rfl⟩, by simp [RDs]⟩
  · simp only [RD]; exact ⟨h.1.symm, h.1 ▸ h.2, trivial⟩
  · exact h.elim
theorem ZeroDs.rds {F : Nat → Prop} {w : World} : ∀ {us : List Value} {ds : List D} (k : Nat), ZeroDs us ds → ∃ r, RDs F w ds k r us []
  | _, _, k, .nil => ⟨fun _ => undef, by simp [RDs]⟩
  | _, _, k, .cons (u := u) (d := d) (us := us) (ds := ds) h1 h2 => by
    obtain ⟨r, h3⟩ := ZeroDs.rds (F := F) (w := w) (k + 1) h2
    refine ⟨fun π => match π with | [] => undef | j :: q => if j = k then u else r (j :: q), ?_⟩
    simp only [RDs]
    refine ⟨u, us, [], [], rfl, rfl, RD.rho d _ _ u [] h1.rd (fun π => by simp [Rho.at]), RDs.rho ds (k + 1) r _ us [] h3 (fun j hj => ?_)⟩
    funext π
    simp [Rho.at, show j ≠ k from by omega]

theorem step_alloc {d : Nat} {T : TypeId} {ds : List D} {ty pos aft g} [hz : ZeroTy P T ds] (hd : n d = true) :
    Step P n ⟨some d, .alloc T, ty, pos, aft, g⟩ nid st [] [(d, .own nid (.pt true ds))] := by
  intro X st' hs hX f a w hn hrep K Q hK
  obtain ⟨ρ, L, hr⟩ := hrep
  subst hn
  obtain ⟨i, z, t1, t2, t3⟩ := hz.out
  obtain ⟨r, h2⟩ := t3.rds (F := f.F) (w := w.alloc (.cells z.cells T)) 0
  refine wp_of_value (u := .pointer (some ⟨w.heap.size, 0, none⟩)) (w' := w.alloc (.cells z.cells T)) ?_
    (hr.done_new hK hd hX _ _ (Keep.alloc w _) (fun π => match π with | [] => .pointer (some ⟨w.heap.size, 0, none⟩) | j :: q => r (j :: q)) [w.heap.size] ?_ (by simp) (by simp))
  · simp [execOp, Instr.alloc, zeroValue, typeInfo, t1, t2, newVar, newRow]
  · simp only [RD]
    refine ⟨trivial, w.heap.size, z.cells.toList, [], T, rfl, rfl, by simpa using alloc_new w (.cells z.cells T), ?_⟩
    exact RDs.rho ds 0 r _ _ _ h2 (fun j _ => rfl)

/-! ### A slice written out -/
theorem fill_ones : ∀ (vs : List Value) (k : Nat) (init : Array Value), (∀ v ∈ vs, v.oneCell' = true) → k + vs.length ≤ init.size →
    Instr.fill (fun i => some (i * 1, 1)) init (vs.zipIdx k |>.map fun p => (p.2, p.1)) = some (init.toList.take k ++ (vs ++ init.toList.drop (k + vs.length))).toArray
  | [], k, init, _, _ => by simp [Instr.fill]
  | v :: vs, k, init, h, hk => by
    simp only [List.length_cons] at hk
    simp only [List.zipIdx_cons, List.map_cons, Instr.fill, Nat.mul_one]
    have hc := oneCell_cells (h v (by simp))
    have h1 : ¬ (v.cells.size ≠ 1 ∨ k + v.cells.size > init.size) := by rw [hc]; simp; omega
    rw [if_neg (by simpa using h1)]
    have h2 : (v.cells.zipIdx.foldl (fun cs (x : Value × Nat) => cs.setIfInBounds (k + x.2) x.1) init) = init.setIfInBounds k v := by rw [hc]; simp
    have ih := fill_ones vs (k + 1) (init.setIfInBounds k v) (fun v hv => h v (by simp [hv])) (by simp; omega)
    simp only [Nat.mul_one] at ih
    rw [h2, ih]
    congr 2
    rw [Array.toList_setIfInBounds]
    apply List.ext_getElem?
    intro j
    simp only [List.getElem?_append, List.length_take, List.length_set, Array.length_toList, List.getElem?_take, List.getElem?_set, List.getElem?_drop, List.length_cons, List.getElem?_cons]
    grind

theorem ones_of {F : Nat → Prop} {w : World} : ∀ {ds : List D} {k : Nat} {r : Rho} {vs : List Value} {L : List Nat}, RDs F w ds k r vs L → ∀ v ∈ vs, v.oneCell' = true
  | [], _, _, _, _, h, v, hv => by simp only [RDs] at h; simp [h.1] at hv
  | d :: ds, k, r, vs, L, h, v, hv => by
    simp only [RDs] at h
    obtain ⟨u, us', L1, L2, rfl, rfl, h1, h2⟩ := h
    rw [List.mem_cons] at hv
    rcases hv with rfl | hv
    · exact h1.one
    · exact ones_of h2 v hv

theorem step_slice_lit {d len : Nat} {T : TypeId} {ps : Array (Nat × Operand)} {rd : List Nat} {ds : List D} {up : List (Nat × AV)} {ty pos aft g} [hT : SliceTy P T 1] (h : Gives st (ps.toList.map (·.2)) rd ds up) (hi : ps.toList.map (·.1) = List.range len) (hlen : len ≤ 1000) (hd : n d = true) :
    Step P n ⟨some d, .buildSlice T len ps, ty, pos, aft, g⟩ nid st rd (up ++ [(d, .own nid (.sl true 1 ds))]) := by
  intro X st' hs hX f a w hn hrep K Q hK
  obtain ⟨ρ, L, hr⟩ := hrep
  subst hn
  obtain ⟨r, L', M1, hm, hv⟩ := hr.toM.gives (h.agree hs) 0
  rw [puts_append] at hK
  rw [List.nil_append] at hm
  obtain ⟨e, i, z, t1, t2, t3, _, _, _, t4, t5⟩ := hT.out
  have hvl := hv.length
  have hvs := ones_of hv
  have hpl : ps.toList.length = len := by have := congrArg List.length hi; simpa using this
  generalize hus : (ps.toList.map (·.2)).map a.eval = us at *
  have hul : us.length = len := by rw [← hus]; simpa using hpl
  have hsame : ∀ g, g < w.heap.size → Same w (w.alloc (.cells us.toArray e)) g := fun g hg => Below.heap_alloc w _ g hg
  have hparts : ps.toList.map (fun x => (x.fst, a.eval x.snd)) = us.zipIdx.map fun p => (p.2, p.1) := by
    rw [← hus]
    apply List.ext_getElem?
    intro j
    have hj : (ps.toList.map (·.1))[j]? = (List.range len)[j]? := by rw [hi]
    simp only [List.getElem?_map, List.getElem?_zipIdx, Nat.zero_add] at hj ⊢
    cases hp : ps.toList[j]? with
    | none => simp
    | some p =>
      simp only [hp, Option.map_some] at hj ⊢
      have hlt : j < len := by rw [← hpl]; exact (List.getElem?_eq_some_iff.1 hp).1
      simp only [List.getElem?_range hlt, Option.some.injEq] at hj
      obtain ⟨p1, p2⟩ := p
      simp only at hj
      subst hj
      rfl
  have hrun : (Instr.buildSlice T len (ps.map fun (i, x) => (i, a.eval x))).run P w = .ok (.slice (some ⟨w.heap.size, 0, none⟩) len len) (w.alloc (.cells us.toArray e)) := by
    have hsz : ((Array.range (len * 1)).map (fun x => z.cells[x % z.cells.size]!)).size = len := by simp
    have hf := fill_ones us 0 ((Array.range (len * 1)).map (fun x => z.cells[x % z.cells.size]!)) hvs (by rw [hsz]; omega)
    have hz : List.drop (0 + us.length) ((Array.range (len * 1)).map (fun x => z.cells[x % z.cells.size]!)).toList = [] := by
      apply List.drop_eq_nil_of_le
      rw [Array.length_toList, hsz]; omega
    rw [hz] at hf
    simp only [List.take_zero, List.nil_append, List.append_nil] at hf
    have hle : ¬ (16777216 < len * 1) := by omega
    by_cases hz0 : len = 0
    · subst hz0
      have : us = [] := List.eq_nil_of_length_eq_zero hul
      subst this
      simp [Instr.buildSlice, run_underlying t1, sizeOf, typeInfo, t2, hparts, Instr.fill, newRow, Array.range_zero']
    · simp only [Nat.mul_one] at hf
      simp [Instr.buildSlice, run_underlying t1, sizeOf, typeInfo, zeroValue, t2, t3, t4, hparts, newRow, hz0, show ¬ (16777216 < len) from by omega, hf]
  refine wp_of_value (u := .slice (some ⟨w.heap.size, 0, none⟩) len len) (w' := w.alloc (.cells us.toArray e)) ?_
    (hm.put_root hK hd hX _ _ [] (by simp) (Keep.alloc w _) (fun π => match π with | [] => .slice (some ⟨w.heap.size, 0, none⟩) len len | j :: q => r (j :: q)) (w.heap.size :: M1) ?_ ?_ ?_)
  · simp only [execOp, Sem.run_bind, hrun, Result.andThen_ok, Sem.run_pure]
  · simp only [RD]
    refine ⟨trivial, us, [w.heap.size], M1, rfl, .inr ⟨w.heap.size, len, len, us.toArray, e, rfl, alloc_new w _, by omega, Nat.le_refl _, by unfold maxLen; omega, by simpa using hul, ?_, rfl⟩, ?_⟩
    · exact List.take_of_length_le (by simp; omega)
    · exact RDs.rho ds 0 r _ us M1 (RDs.same (fun _ h => h) (fun g hg => hsame g (hm.rep.F_lt hg)) ds 0 r us M1 hv (fun g hg => hsame g (hm.bound g hg).1)) (fun j _ => rfl)
  · rw [List.nodup_cons]
    exact ⟨fun hg => by have := (hm.bound _ hg).1; omega, hm.nd⟩
  · intro g hg
    rw [List.mem_cons] at hg
    rcases hg with rfl | hg
    · exact ⟨by simp, .inr (Nat.le_refl _)⟩
    · exact ⟨by simp; have := (hm.bound g hg).1; omega, .inl hg⟩

/-! ### A part takes a name or a copy of its own -/
theorem step_assign_give {o : Oper} {d : Nat} {x : Operand} {dd : D} {rd : List Nat} {up : List (Nat × AV)} (hop : o.op = .assign x ∨ o.op = .move x) (hdst : o.dst = some d) (h : Give st x rd dd up) (hd : n d = true) :
    Step P n o nid st rd (up ++ [(d, .own nid dd)]) := by
  intro X st' hs hX f a w hn hrep K Q hK
  obtain ⟨ρ, L, hr⟩ := hrep
  subst hn
  obtain ⟨r, L', M1, hm, hv⟩ := hr.toM.give (h.agree hs)
  rw [puts_append] at hK
  rw [List.nil_append] at hm
  refine wp_of_value (u := a.eval x) (w' := w) ?_ ?_
  · rcases hop with e | e <;> simp only [execOp, e] <;> rfl
  · rw [hdst]
    exact hm.put_root hK hd hX _ _ [] (by simp) (Keep.refl w) r M1 hv hm.nd (fun g hg => ⟨(hm.bound g hg).1, .inl hg⟩)
theorem step_assign_take {d : Nat} {x : Operand} {dd : D} {rd : List Nat} {up : List (Nat × AV)} {ty pos aft g} (h : Give st x rd dd up) (hd : n d = true) :
    Step P n ⟨some d, .assign x, ty, pos, aft, g⟩ nid st rd (up ++ [(d, .own nid dd)]) := step_assign_give (.inl rfl) rfl h hd

end
end Go.Pv
