/- A slice made longer. No condition. -/
import Derived.Test.YtpdfadnpfmlfgaaDoorNPvE
set_option linter.unusedVariables false
set_option linter.unusedSimpArgs false
namespace Go.Pv
open Go.RowKit
section
variable {P : Program} {n : NN} {nid : Nat} {st : Nat → AV} {f : Fr} {X : Nat → Prop} {a : Act} {w : World} {ρ : Nat → Rho} {L : Nat → List Nat} {M : List Nat}
theorem alloc_new (w : World) (o : Obj) : (w.alloc o).heap[w.heap.size]? = some o := by
  show (w.heap.push o)[w.heap.size]? = some o
  simp
theorem oneCell_cells {v : Value} (h : v.oneCell' = true) : v.cells = #[v] := by cases v <;> simp [Value.oneCell'] at h <;> rfl
theorem step_box {d : Nat} {x : Operand} {T : TypeId} {dd : D} {rd : List Nat} {up : List (Nat × AV)} {ty pos aft g} (h : Give st x rd dd up) (hd : n d = true) :
    Step P n ⟨some d, .box T x, ty, pos, aft, g⟩ nid st rd (up ++ [(d, .own nid (.pt true [dd]))]) := by
  intro X st' hs hX f a w hn hrep K Q hK
  obtain ⟨ρ, L, hr⟩ := hrep
  subst hn
  obtain ⟨r, L', M1, hm, hv⟩ := hr.toM.give (h.agree hs)
  rw [puts_append] at hK
  rw [List.nil_append] at hm
  have hsame : ∀ g, g < w.heap.size → Same w (w.alloc (.cells #[a.eval x] T)) g := fun g hg => Below.heap_alloc w _ g hg
  refine wp_of_value (u := .pointer (some ⟨w.heap.size, 0, none⟩)) (w' := w.alloc (.cells #[a.eval x] T)) ?_
    (hm.put_root hK hd hX _ _ [] (by simp) (Keep.alloc w _) (fun π => match π with | [] => .pointer (some ⟨w.heap.size, 0, none⟩) | _ :: q => r q) (w.heap.size :: M1) ?_ ?_ ?_)
  · simp only [execOp, Instr.box, newVar, newRow, oneCell_cells hv.one, Sem.run_bind, run_newObj, Result.andThen_ok, Sem.run_pure]
    rfl
  · simp only [RD]
    refine ⟨trivial, w.heap.size, [a.eval x], M1, T, rfl, rfl, alloc_new w _, ?_⟩
    simp only [RDs]
    refine ⟨_, _, M1, [], rfl, by simp, ?_, rfl, rfl⟩
    exact RD.rho dd r _ _ M1 (RD.same (fun _ h => h) (fun g hg => hsame g (hm.rep.F_lt hg)) dd r _ M1 hv (fun g hg => hsame g (hm.bound g hg).1)) (fun π => rfl)
  · rw [List.nodup_cons]
    exact ⟨fun hg => by have := (hm.bound _ hg).1; omega, hm.nd⟩
  · intro g hg
    rw [List.mem_cons] at hg
    rcases hg with rfl | hg
    · exact ⟨by simp, .inr (Nat.le_refl _)⟩
    · exact ⟨by simp; have := (hm.bound g hg).1; omega, .inl hg⟩
def AV.dat : AV → Option D
  | .c d => some d
  | .raw d => some d
  | _ => none
def AV.dats : List AV → Option (List D)
  | [] => some []
  | x :: l => match x.dat, AV.dats l with
    | some d, some ds => some (d :: ds)
    | _, _ => none
theorem SRs.dats {F : Nat → Prop} {w : World} {ρ : Nat → Rho} : ∀ (l : List AV) (ds : List D) (k : Nat) (vs : List Value) (L : List Nat), SRs F w ρ l vs L → AV.dats l = some ds → ∃ r, RDs F w ds k r vs L
  | [], ds, k, vs, L, h, hd => by
    simp only [AV.dats, Option.some.injEq] at hd
    subst hd
    simp only [SRs] at h
    exact ⟨fun _ => undef, by simpa only [RDs] using h⟩
  | x :: l, ds, k, vs, L, h, hd => by
    simp only [AV.dats] at hd
    cases hx : x.dat with
    | none => simp [hx] at hd
    | some d =>
      cases hl : AV.dats l with
      | none => simp [hx, hl] at hd
      | some ds' =>
        simp only [hx, hl, Option.some.injEq] at hd
        subst hd
        simp only [SRs] at h
        obtain ⟨v, vs', L1, L2, rfl, rfl, h1, h2⟩ := h
        obtain ⟨r2, h3⟩ := SRs.dats l ds' (k + 1) vs' L2 h2 hl
        have h4 : ∃ r1, RD F w d r1 v L1 := by
          cases x <;> simp [AV.dat] at hx
          · subst hx; simp only [SR] at h1; obtain ⟨rfl, r, h1⟩ := h1; exact ⟨r, h1⟩
          · subst hx; simp only [SR] at h1; exact h1
        obtain ⟨r1, h4⟩ := h4
        refine ⟨fun π => match π with | [] => undef | j :: q => if j = k then r1 q else r2 (j :: q), ?_⟩
        simp only [RDs]
        refine ⟨v, vs', L1, L2, rfl, rfl, RD.rho d r1 _ v L1 h4 (fun π => by simp [Rho.at]), RDs.rho ds' (k + 1) r2 _ vs' L2 h3 (fun j hj => ?_)⟩
        funext π
        simp [Rho.at, show j ≠ k from by omega]
theorem step_box_agg {d t : Nat} {T : TypeId} {l : List AV} {ds : List D} {ty pos aft g} (h : st t = .agg l) (hl : AV.dats l = some ds) (hd : n d = true) :
    Step P n ⟨some d, .box T (.tmp t), ty, pos, aft, g⟩ nid st [t] [(t, .dead), (d, .own nid (.pt true ds))] := by
  intro X st' hs hX f a w hn hrep K Q hK
  obtain ⟨ρ, L, hr⟩ := hrep
  subst hn
  have ht := hr.slots t
  rw [(hs t (by simp)).trans h] at ht
  simp only [SR] at ht
  obtain ⟨vs, e0, h1⟩ := ht
  obtain ⟨r, h2⟩ := h1.dats l ds 0 vs (L t) hl
  have hm := hr.toM.detach t .dead [] (L t) (by simp only [SR]) (by simp [AV.ids]) (fun g hg => by simpa using hg) List.nodup_nil (hr.nodup t) (by simp)
  rw [List.nil_append] at hm
  have hsame : ∀ g, g < w.heap.size → Same w (w.alloc (.cells vs.toArray T)) g := fun g hg => Below.heap_alloc w _ g hg
  refine wp_of_value (u := .pointer (some ⟨w.heap.size, 0, none⟩)) (w' := w.alloc (.cells vs.toArray T)) ?_
    (hm.put_root (K := K) (d := d) hK hd hX _ _ [] (by simp) (Keep.alloc w _) (fun π => match π with | [] => .pointer (some ⟨w.heap.size, 0, none⟩) | j :: q => r (j :: q)) (w.heap.size :: L t) ?_ ?_ ?_)
  · have e1 : a.eval (.tmp t) = _ := e0
    simp only [execOp, Instr.box, newVar, newRow, e1, Value.cells, Sem.run_bind, run_newObj, Result.andThen_ok, Sem.run_pure]
    rfl
  · simp only [RD]
    refine ⟨trivial, w.heap.size, vs, L t, T, rfl, rfl, alloc_new w _, ?_⟩
    exact RDs.rho ds 0 r _ vs _ (RDs.same (fun _ h => h) (fun g hg => hsame g (hr.F_lt hg)) ds 0 r vs _ h2 (fun g hg => hsame g (hr.bound t g hg).1)) (fun j _ => rfl)
  · rw [List.nodup_cons]
    exact ⟨fun hg => by have := (hr.bound t _ hg).1; omega, hr.nodup t⟩
  · intro g hg
    rw [List.mem_cons] at hg
    rcases hg with rfl | hg
    · exact ⟨by simp, .inr (Nat.le_refl _)⟩
    · exact ⟨by simp; have := (hr.bound t g hg).1; omega, .inl hg⟩
def ZeroD : Value → D → Prop
  | .slice none 0 0, .sl true _ [] => True
  | u, .lit v => v = u ∧ u.oneCell' = true
  | _, _ => False
inductive ZeroDs : List Value → List D → Prop
  | nil : ZeroDs [] []
  | cons {u d us ds} : ZeroD u d → ZeroDs us ds → ZeroDs (u :: us) (d :: ds)
class ZeroTy (P : Program) (T : TypeId) (ds : outParam (List D)) : Prop where
  out : ∃ i z, P.info? T = some i ∧ i.zero = some z ∧ ZeroDs z.cells.toList ds
theorem ZeroD.rd {F : Nat → Prop} {w : World} {u : Value} {d : D} (h : ZeroD u d) : RD F w d (fun _ => u) u [] := by
  unfold ZeroD at h
  split at h
  · simp only [RD]; exact ⟨trivial, [], [], [], rfl, .inl ⟨rfl, rfl, rfl⟩, by simp [RDs]⟩
  · simp only [RD]; exact ⟨h.1.symm, h.1 ▸ h.2, trivial⟩
  · exact h.elim
theorem ZeroDs.rds {F : Nat → Prop} {w : World} : ∀ {us : List Value} {ds : List D} (k : Nat), ZeroDs us ds → ∃ r, RDs F w ds k r us []
  | _, _, k, .nil => ⟨fun _ => undef, by simp [RDs]⟩
  | _, _, k, .cons (u := u) (d := d) (us := us) (ds := ds) h1 h2 => by
    obtain ⟨r, h3⟩ := ZeroDs.rds (F := F) (w := w) (k + 1) h2
    refine ⟨fun π => match π with | [] => undef | j :: q => if j = k then u else r (j :: q), ?_⟩
    simp only [RDs]
    refine ⟨u, us, [], [], rfl, rfl, RD.rho d _ _ u [] h1.rd (fun π => by simp [Rho.at]), RDs.rho ds (k + 1) r _ us [] h3 (fun j hj => ?_)⟩
    funext π
    simp [Rho.at, show j ≠ k from by omega]
theorem step_alloc {d : Nat} {T : TypeId} {ds : List D} {ty pos aft g} [hz : ZeroTy P T ds] (hd : n d = true) :
    Step P n ⟨some d, .alloc T, ty, pos, aft, g⟩ nid st [] [(d, .own nid (.pt true ds))] := by
  intro X st' hs hX f a w hn hrep K Q hK
  obtain ⟨ρ, L, hr⟩ := hrep
  subst hn
  obtain ⟨i, z, t1, t2, t3⟩ := hz.out
  obtain ⟨r, h2⟩ := t3.rds (F := f.F) (w := w.alloc (.cells z.cells T)) 0
  refine wp_of_value (u := .pointer (some ⟨w.heap.size, 0, none⟩)) (w' := w.alloc (.cells z.cells T)) ?_
    (hr.done_new hK hd hX _ _ (Keep.alloc w _) (fun π => match π with | [] => .pointer (some ⟨w.heap.size, 0, none⟩) | j :: q => r (j :: q)) [w.heap.size] ?_ (by simp) (by simp))
  · simp [execOp, Instr.alloc, zeroValue, typeInfo, t1, t2, newVar, newRow]
  · simp only [RD]
    refine ⟨trivial, w.heap.size, z.cells.toList, [], T, rfl, rfl, by simpa using alloc_new w (.cells z.cells T), ?_⟩
    exact RDs.rho ds 0 r _ _ _ h2 (fun j _ => rfl)
theorem fill_ones : ∀ (vs : List Value) (k : Nat) (init : Array Value), (∀ v ∈ vs, v.oneCell' = true) → k + vs.length ≤ init.size →
    Instr.fill (fun i => some (i * 1, 1)) init (vs.zipIdx k |>.map fun p => (p.2, p.1)) = some (init.toList.take k ++ (vs ++ init.toList.drop (k + vs.length))).toArray
  | [], k, init, _, _ => by simp [Instr.fill]
  | v :: vs, k, init, h, hk => by
    simp only [List.length_cons] at hk
    simp only [List.zipIdx_cons, List.map_cons, Instr.fill, Nat.mul_one]
    have hc := oneCell_cells (h v (by simp))
    have h1 : ¬ (v.cells.size ≠ 1 ∨ k + v.cells.size > init.size) := by rw [hc]; simp; omega
    rw [if_neg (by simpa using h1)]
    have h2 : (v.cells.zipIdx.foldl (fun cs (x : Value × Nat) => cs.setIfInBounds (k + x.2) x.1) init) = init.setIfInBounds k v := by rw [hc]; simp
    have ih := fill_ones vs (k + 1) (init.setIfInBounds k v) (fun v hv => h v (by simp [hv])) (by simp; omega)
    simp only [Nat.mul_one] at ih
    rw [h2, ih]
    congr 2
    rw [Array.toList_setIfInBounds]
    apply List.ext_getElem?
    intro j
    simp only [List.getElem?_append, List.length_take, List.length_set, Array.length_toList, List.getElem?_take, List.getElem?_set, List.getElem?_drop, List.length_cons, List.getElem?_cons]
    grind
theorem ones_of {F : Nat → Prop} {w : World} : ∀ {ds : List D} {k : Nat} {r : Rho} {vs : List Value} {L : List Nat}, RDs F w ds k r vs L → ∀ v ∈ vs, v.oneCell' = true
  | [], _, _, _, _, h, v, hv => by simp only [RDs] at h; simp [h.1] at hv
  | d :: ds, k, r, vs, L, h, v, hv => by
    simp only [RDs] at h
    obtain ⟨u, us', L1, L2, rfl, rfl, h1, h2⟩ := h
    rw [List.mem_cons] at hv
    rcases hv with rfl | hv
    · exact h1.one
    · exact ones_of h2 v hv
theorem step_slice_lit {d len : Nat} {T : TypeId} {ps : Array (Nat × Operand)} {rd : List Nat} {ds : List D} {up : List (Nat × AV)} {ty pos aft g} [hT : SliceTy P T 1] (h : Gives st (ps.toList.map (·.2)) rd ds up) (hi : ps.toList.map (·.1) = List.range len) (hlen : len ≤ 1000) (hd : n d = true) :
    Step P n ⟨some d, .buildSlice T len ps, ty, pos, aft, g⟩ nid st rd (up ++ [(d, .own nid (.sl true 1 ds))]) := by
  intro X st' hs hX f a w hn hrep K Q hK
  obtain ⟨ρ, L, hr⟩ := hrep
  subst hn
  obtain ⟨r, L', M1, hm, hv⟩ := hr.toM.gives (h.agree hs) 0
  rw [puts_append] at hK
  rw [List.nil_append] at hm
  obtain ⟨e, i, z, t1, t2, t3, _, _, _, t4, t5⟩ := hT.out
  have hvl := hv.length
  have hvs := ones_of hv
  have hpl : ps.toList.length = len := by have := congrArg List.length hi; simpa using this
  generalize hus : (ps.toList.map (·.2)).map a.eval = us at *
  have hul : us.length = len := by rw [← hus]; simpa using hpl
  have hsame : ∀ g, g < w.heap.size → Same w (w.alloc (.cells us.toArray e)) g := fun g hg => Below.heap_alloc w _ g hg
  have hparts : ps.toList.map (fun x => (x.fst, a.eval x.snd)) = us.zipIdx.map fun p => (p.2, p.1) := by
    rw [← hus]
    apply List.ext_getElem?
    intro j
    have hj : (ps.toList.map (·.1))[j]? = (List.range len)[j]? := by rw [hi]
    simp only [List.getElem?_map, List.getElem?_zipIdx, Nat.zero_add] at hj ⊢
    cases hp : ps.toList[j]? with
    | none => simp
    | some p =>
      simp only [hp, Option.map_some] at hj ⊢
      have hlt : j < len := by rw [← hpl]; exact (List.getElem?_eq_some_iff.1 hp).1
      simp only [List.getElem?_range hlt, Option.some.injEq] at hj
      obtain ⟨p1, p2⟩ := p
      simp only at hj
      subst hj
      rfl
  have hrun : (Instr.buildSlice T len (ps.map fun (i, x) => (i, a.eval x))).run P w = .ok (.slice (some ⟨w.heap.size, 0, none⟩) len len) (w.alloc (.cells us.toArray e)) := by
    have hsz : ((Array.range (len * 1)).map (fun x => z.cells[x % z.cells.size]!)).size = len := by simp
    have hf := fill_ones us 0 ((Array.range (len * 1)).map (fun x => z.cells[x % z.cells.size]!)) hvs (by rw [hsz]; omega)
    have hz : List.drop (0 + us.length) ((Array.range (len * 1)).map (fun x => z.cells[x % z.cells.size]!)).toList = [] := by
      apply List.drop_eq_nil_of_le
      rw [Array.length_toList, hsz]; omega
    rw [hz] at hf
    simp only [List.take_zero, List.nil_append, List.append_nil] at hf
    have hle : ¬ (16777216 < len * 1) := by omega
    by_cases hz0 : len = 0
    · subst hz0
      have : us = [] := List.eq_nil_of_length_eq_zero hul
      subst this
      simp [Instr.buildSlice, run_underlying t1, sizeOf, typeInfo, t2, hparts, Instr.fill, newRow, Array.range_zero']
    · simp only [Nat.mul_one] at hf
      simp [Instr.buildSlice, run_underlying t1, sizeOf, typeInfo, zeroValue, t2, t3, t4, hparts, newRow, hz0, show ¬ (16777216 < len) from by omega, hf]
  refine wp_of_value (u := .slice (some ⟨w.heap.size, 0, none⟩) len len) (w' := w.alloc (.cells us.toArray e)) ?_
    (hm.put_root hK hd hX _ _ [] (by simp) (Keep.alloc w _) (fun π => match π with | [] => .slice (some ⟨w.heap.size, 0, none⟩) len len | j :: q => r (j :: q)) (w.heap.size :: M1) ?_ ?_ ?_)
  · simp only [execOp, Sem.run_bind, hrun, Result.andThen_ok, Sem.run_pure]
  · simp only [RD]
    refine ⟨trivial, us, [w.heap.size], M1, rfl, .mk0 ⟨w.heap.size, len, len, us.toArray, e, rfl, alloc_new w _, by omega, Nat.le_refl _, by unfold maxLen; omega, by simpa using hul, ?_, rfl⟩, ?_⟩
    · exact List.take_of_length_le (by simp; omega)
    · exact RDs.rho ds 0 r _ us M1 (RDs.same (fun _ h => h) (fun g hg => hsame g (hm.rep.F_lt hg)) ds 0 r us M1 hv (fun g hg => hsame g (hm.bound g hg).1)) (fun j _ => rfl)
  · rw [List.nodup_cons]
    exact ⟨fun hg => by have := (hm.bound _ hg).1; omega, hm.nd⟩
  · intro g hg
    rw [List.mem_cons] at hg
    rcases hg with rfl | hg
    · exact ⟨by simp, .inr (Nat.le_refl _)⟩
    · exact ⟨by simp; have := (hm.bound g hg).1; omega, .inl hg⟩
theorem step_assign_give {o : Oper} {d : Nat} {x : Operand} {dd : D} {rd : List Nat} {up : List (Nat × AV)} (hop : o.op = .assign x ∨ o.op = .move x) (hdst : o.dst = some d) (h : Give st x rd dd up) (hd : n d = true) :
    Step P n o nid st rd (up ++ [(d, .own nid dd)]) := by
  intro X st' hs hX f a w hn hrep K Q hK
  obtain ⟨ρ, L, hr⟩ := hrep
  subst hn
  obtain ⟨r, L', M1, hm, hv⟩ := hr.toM.give (h.agree hs)
  rw [puts_append] at hK
  rw [List.nil_append] at hm
  refine wp_of_value (u := a.eval x) (w' := w) ?_ ?_
  · rcases hop with e | e <;> simp only [execOp, e] <;> rfl
  · rw [hdst]
    exact hm.put_root hK hd hX _ _ [] (by simp) (Keep.refl w) r M1 hv hm.nd (fun g hg => ⟨(hm.bound g hg).1, .inl hg⟩)
theorem step_assign_take {d : Nat} {x : Operand} {dd : D} {rd : List Nat} {up : List (Nat × AV)} {ty pos aft g} (h : Give st x rd dd up) (hd : n d = true) :
    Step P n ⟨some d, .assign x, ty, pos, aft, g⟩ nid st rd (up ++ [(d, .own nid dd)]) := step_assign_give (.inl rfl) rfl h hd
end
end Go.Pv
namespace Go.Pv
open Go.RowKit
section
variable {P : Program} {n : NN} {nid : Nat} {st : Nat → AV} {f : Fr} {X : Nat → Prop} {a : Act} {w : World} {ρ : Nat → Rho} {L : Nat → List Nat} {M : List Nat}
theorem run_append_room' (w : World) (t ty e e' : TypeId) (i : TypeInfo) (ht : P.underlying t = some (.slice e)) (hi : P.info? e = some i)
    (g o sLen sCap : Nat) (cur : Array Value) (hg : w.heap[g]? = some (.cells cur e' (0, 0)))
    (b : Addr) (m c : Nat) (news : List Value) (hl : news.length = m * i.size) (hnews : ∀ j u, news[j]? = some u → w.cell? (b.add j) = some u) (h1 : ∀ u ∈ news, u.oneCell' = true)
    (hroom : sLen + m ≤ sCap) (hfit : o + sLen * i.size + news.length ≤ cur.size) :
    (Builtin.append_ #[t, t] ty #[.slice (some ⟨g, o, none⟩) sLen sCap, .slice (some b) m c]).run P w =
      .ok (.slice (some ⟨g, o, none⟩) (sLen + m) sCap) (w.setRow g (cur.toList.take (o + sLen * i.size) ++ news ++ cur.toList.drop (o + sLen * i.size + news.length)).toArray) := by
  have hf := run_firstCells_some (P := P) w i.size m b m c news hl hnews
  have hst := run_storeCells_at P g (o + sLen * i.size) e' news 0 cur w hg (by simpa using hfit) h1
  simp only [Nat.add_zero] at hst
  simp [Builtin.append_, run_underlying ht, sizeOf, typeInfo, hi, Builtin.lenOf, hroom, hf, addr_off, hst]
theorem run_append_zero {T ty : TypeId} {sz : Nat} [hT : SliceTy P T sz] (w : World) (v : Value) (us : List Value) (L0 : List Nat) (h : Row w v sz us L0) (a0 : Option Addr) (c : Nat) :
    (Builtin.append_ #[T, T] ty #[v, .slice a0 0 c]).run P w = .ok v w := by
  obtain ⟨e, i, z, t1, t2, t3, _⟩ := hT.out
  rcases h with ⟨rfl, _, _⟩ | ⟨g, o, n, cap, cur, e', rfl, h2, h3, h4, _⟩
  · cases a0 <;> simp [Builtin.append_, run_underlying t1, sizeOf, typeInfo, t2, Builtin.lenOf, Builtin.firstCells, loadCells, loadCellsFrom]
  · cases a0 <;> simp [Builtin.append_, run_underlying t1, sizeOf, typeInfo, t2, Builtin.lenOf, Builtin.firstCells, loadCells, loadCellsFrom, h4, storeCells]
theorem Keep.grow (w : World) (o : Obj) (M : List Nat) : Keep w M (w.drew.alloc o) :=
  ⟨rfl, rfl, rfl, by simp, fun g hg _ => Below.heap_alloc w.drew o g (by simpa using hg), Nat.le_succ _⟩
theorem run_append_row {T ty : TypeId} {sz : Nat} [hT : SliceTy P T sz] (w : World) (v : Value) (us : List Value) (L0 : List Nat) (h : Row w v sz us L0) (a0 : Option Addr) (m c : Nat) (us2 : List Value) (hl : us2.length = m * sz)
    (hcells : us2 ≠ [] → ∃ b, a0 = some b ∧ ∀ (j : Nat) (u : Value), us2[j]? = some u → w.cell? (b.add j) = some u) (h1 : ∀ u ∈ us2, u.oneCell' = true) (hb : us.length + us2.length ≤ 1099511627776) :
    ∃ v' w' L0', (Builtin.append_ #[T, T] ty #[v, .slice a0 m c]).run P w = .ok v' w' ∧ Row w' v' sz (us ++ us2) L0' ∧ Keep w L0 w' ∧ (L0' = L0 ∨ (L0' = [w.heap.size] ∧ w.heap.size < w'.heap.size ∧ Keep w [] w')) := by
  obtain ⟨e, i, z, t1, t2, t3, t4, t5, t6, t7, t8⟩ := hT.out
  by_cases hne : us2 = []
  · subst hne
    have hm : m = 0 := by
      simp only [List.length_nil] at hl
      rcases Nat.mul_eq_zero.1 hl.symm with h | h <;> omega
    subst hm
    exact ⟨v, w, L0, run_append_zero w v us L0 h a0 c, by simpa using h, ⟨rfl, rfl, rfl, Nat.le_refl _, fun _ _ _ => rfl, Nat.le_refl _⟩, .inl rfl⟩
  · obtain ⟨b, rfl, hc⟩ := hcells hne
    have hm0 : 0 < m := by
      rcases Nat.eq_zero_or_pos m with rfl | h
      · simp at hl; exact absurd hl hne
      · exact h
    have hml : m ≤ us2.length := by rw [hl]; exact Nat.le_mul_of_pos_right m t4
    subst t3
    have hgrown : ∀ (old : Nat) (nn : Nat), nn * i.size = us.length →
        Row (w.drew.alloc (.cells (us.toArray ++ us2.toArray ++ Builtin.zeroCells z.cells (grownCap w (nn + m) old e - (nn + m))) e)) (.slice (some ⟨w.heap.size, 0, none⟩) (nn + m) (grownCap w (nn + m) old e)) i.size (us ++ us2) [w.heap.size] := by
      intro old nn hnn
      have hge := grownCap_ge w (nn + m) old e
      have hnl : nn ≤ us.length := by rw [← hnn]; exact Nat.le_mul_of_pos_right nn t4
      have hcm : grownCap w (nn + m) old e ≤ maxLen := grownCap_le_maxLen w (nn + m) old e (by unfold maxLen; omega)
      refine .mk0 ⟨w.heap.size, _, _, _, e, rfl, alloc_new w.drew _, ?_, hge, hcm, ?_, ?_, rfl⟩
      · rw [List.length_append, hl, Nat.add_mul, hnn]
      · simp only [Array.size_append, List.size_toArray, size_zeroCells, t8, hl, ← hnn, ← Nat.add_mul]
        congr 1
        omega
      · simp only [Array.toList_append, List.append_assoc]
        have : (nn + m) * i.size = (us ++ us2).length := by rw [List.length_append, hl, Nat.add_mul, hnn]
        rw [this, ← List.append_assoc]
        exact List.take_left
    rcases h with ⟨rfl, rfl, rfl⟩ | ⟨g, o, nn, cap, cur, e', rfl, h2, h3, h4, h5, h6, h7, rfl⟩
    · have hbm : m * i.bytes ≤ 281474976710656 := Nat.le_trans (Nat.mul_le_mul_left m t6) (by omega)
      have hr := run_append_nil (P := P) w T ty e i z t1 t2 t7 b m c us2 hl hc hm0 (by omega) hbm
      have hg := hgrown 0 0 (by simp)
      simp only [Nat.zero_add, List.nil_append, Array.empty_append] at hg
      refine ⟨_, _, _, hr, hg, Keep.grow w _ _, .inr ⟨rfl, by simp, Keep.grow w _ _⟩⟩
    · have hnl : nn ≤ us.length := by rw [← h3]; exact Nat.le_mul_of_pos_right nn t4
      by_cases hroom : nn + m ≤ cap
      · have hfit : o + nn * i.size + us2.length ≤ cur.size := by rw [hl, Nat.add_assoc, ← Nat.add_mul]; exact Nat.le_trans (Nat.add_le_add_left (Nat.mul_le_mul_right _ hroom) _) h6
        have hr := run_append_room' (P := P) w T ty e e' i t1 t2 g o nn cap cur h2 b m c us2 hl hc h1 hroom hfit
        refine ⟨_, _, [g], hr, .inr ⟨g, o, nn + m, cap, _, e', rfl, setRow_heap w g cur _ e' _ h2, ?_, hroom, h5, ?_, ?_, rfl⟩, ⟨rfl, rfl, rfl, by simp, fun k _ hk => setRow_other w g k _ (by simpa using hk), Nat.le_refl _⟩, .inl rfl⟩
        · rw [List.length_append, hl, Nat.add_mul, h3]
        · simp only [List.size_toArray, List.length_append, List.length_take, List.length_drop, Array.length_toList]
          omega
        · have hle : o ≤ (cur.toList.take (o + nn * i.size)).length := by rw [List.length_take, Array.length_toList]; omega
          have e1 : (cur.toList.take (o + nn * i.size)).drop o = us := by rw [List.drop_take, Nat.add_sub_cancel_left]; exact h7
          rw [List.append_assoc, List.drop_append_of_le_length hle, e1, ← List.append_assoc]
          have : (nn + m) * i.size = (us ++ us2).length := by rw [List.length_append, hl, Nat.add_mul, h3]
          rw [this]
          exact List.take_left
      · have holds : ∀ (j : Nat) (u : Value), us[j]? = some u → w.cell? ((⟨g, o, none⟩ : Addr).add j) = some u := by
          intro j u hu
          rw [addr_off]
          exact cell_off h2 h7 hu
        have hbm : (nn + m) * i.bytes ≤ 140737488355328 := Nat.le_trans (Nat.mul_le_mul_left (nn + m) t6) (by omega)
        have hr := run_append_grow (P := P) w T ty e i z t1 t2 t7 ⟨g, o, none⟩ nn cap us h3.symm holds b m c us2 hl hc (by omega) (by omega) (growslice_fits (by omega) hbm)
        exact ⟨_, _, _, hr, hgrown cap nn h3, Keep.grow w _ _, .inr ⟨rfl, by simp, Keep.grow w _ _⟩⟩
theorem RD.longer {F : Nat → Prop} {T ty : TypeId} {sz : Nat} [hT : SliceTy P T sz] (w : World) {cs ds : List D} {r1 : Rho} {v : Value} {M1 : List Nat} (h : RD F w (.sl true sz cs) r1 v M1) (hF : ∀ g, F g → g < w.heap.size)
    (a0 : Option Addr) (m c : Nat) (us2 : List Value) (hl : us2.length = m * sz) (hcells : us2 ≠ [] → ∃ b, a0 = some b ∧ ∀ (j : Nat) (u : Value), us2[j]? = some u → w.cell? (b.add j) = some u)
    {k : Nat} {r2 : Rho} {M2 : List Nat} (h2 : RDs F w ds k r2 us2 M2) (hb : cs.length + ds.length ≤ 1099511627776)
    (hnd : (M1 ++ M2).Nodup) (hlt : ∀ g ∈ M1 ++ M2, g < w.heap.size ∧ ¬ F g) :
    ∃ v' w' r' L1 Mw, (Builtin.append_ #[T, T] ty #[v, .slice a0 m c]).run P w = .ok v' w' ∧ (∀ g ∈ Mw, g ∈ M1) ∧ Keep w Mw w' ∧ RD F w' (.sl true sz (cs ++ ds)) r' v' L1 ∧ L1.Nodup ∧ ∀ g ∈ L1, g < w'.heap.size ∧ (g ∈ M1 ++ M2 ∨ w.heap.size ≤ g) := by
  simp only [RD] at h
  obtain ⟨rfl, us, L0, L2, rfl, h3, h4⟩ := h
  have hu1 := h4.length
  have hu2 := h2.length
  obtain ⟨v', w', L0', hr, hrow, hk, hL0⟩ := run_append_row (P := P) (T := T) (ty := ty) w _ us L0 h3 a0 m c us2 hl hcells (ones_of h2) (by rw [hu1, hu2]; exact hb)
  have hsame : ∀ g, g < w.heap.size → g ∉ L0 → Same w w' g := fun g hg hn => hk.block g hg hn
  have hnd' := hnd
  simp only [List.nodup_append, List.mem_append] at hnd
  have hsF : ∀ g, F g → Same w w' g := fun g hg => hsame g (hF g hg) (fun hm => (hlt g (by simp [hm])).2 hg)
  have hs2 : ∀ g, g ∈ L2 → Same w w' g := fun g hg => hsame g (hlt g (by simp [hg])).1 (fun hm => hnd.1.2.2 g hm g hg rfl)
  have hsM : ∀ g, g ∈ M2 → Same w w' g := fun g hg => hsame g (hlt g (by simp [hg])).1 (fun hm => hnd.2.2 g (.inl hm) g hg rfl)
  have e1 := RDs.same (F' := F) (fun _ h => h) hsF cs 0 r1 us L2 h4 hs2
  have e2 := RDs.same (F' := F) (fun _ h => h) hsF ds k r2 us2 M2 h2 hsM
  -- places of the new part
  have e2' : ∃ r3, RDs F w' ds (0 + cs.length) r3 us2 M2 := by
    have h5 := RDs.shift ds 0 k r2 us2 M2 (by rw [Nat.zero_add]; exact e2)
    exact ⟨_, RDs.unshift ds 0 cs.length _ us2 M2 h5⟩
  obtain ⟨r3, e3⟩ := e2'
  refine ⟨v', w', fun π => match π with | [] => v' | j :: q => if j < cs.length then r1 (j :: q) else r3 (j :: q), L0' ++ (L2 ++ M2), L0, hr, fun g hg => by simp [hg], hk, ?_, ?_, ?_⟩
  · simp only [RD]
    refine ⟨trivial, us ++ us2, L0', L2 ++ M2, rfl, hrow, RDs.append cs ds 0 _ us us2 L2 M2 ?_ ?_⟩
    · have : ∀ (cs' : List D) (k' : Nat) (us' : List Value) (L' : List Nat), k' + cs'.length ≤ cs.length → RDs F w' cs' k' r1 us' L' → RDs F w' cs' k' (fun π => match π with | [] => v' | j :: q => if j < cs.length then r1 (j :: q) else r3 (j :: q)) us' L' := by
        intro cs'
        induction cs' with
        | nil => intro k' us' L' _ h; simpa only [RDs] using h
        | cons d cs' ih =>
          intro k' us' L' hk' h
          simp only [RDs, List.length_cons] at h hk' ⊢
          obtain ⟨u, us'', A, B, rfl, rfl, f1, f2⟩ := h
          exact ⟨u, us'', A, B, rfl, rfl, RD.rho d _ _ u A f1 (fun π => by simp [Rho.at, show k' < cs.length from by omega]), ih (k' + 1) us'' B (by omega) f2⟩
      exact this cs 0 us L2 (by omega) e1
    · refine RDs.rho ds _ r3 _ us2 M2 e3 (fun j hj => ?_)
      funext π
      simp [Rho.at, show ¬ j < cs.length from by omega]
  · rcases hL0 with rfl | ⟨rfl, _⟩
    · rw [← List.append_assoc]; exact hnd'
    · simp only [List.cons_append, List.nil_append, List.nodup_cons, List.mem_append]
      refine ⟨fun h => ?_, ?_⟩
      · rcases h with h | h
        · have := (hlt _ (show w.heap.size ∈ (L0 ++ L2) ++ M2 by simp [h])).1; omega
        · have := (hlt _ (show w.heap.size ∈ (L0 ++ L2) ++ M2 by simp [h])).1; omega
      · rw [List.nodup_append]
        exact ⟨hnd.1.2.1, hnd.2.1, fun g hg g' hg' e => hnd.2.2 g (.inr hg) g' hg' e⟩
  · intro g hg
    rcases hL0 with rfl | ⟨rfl, hlt', _⟩
    · have hg' : g ∈ (L0' ++ L2) ++ M2 := by simpa using hg
      exact ⟨Nat.lt_of_lt_of_le (hlt g hg').1 hk.size, .inl hg'⟩
    · simp only [List.cons_append, List.nil_append, List.mem_cons] at hg
      rcases hg with rfl | hg
      · exact ⟨hlt', .inr (Nat.le_refl _)⟩
      · have hg' : g ∈ (L0 ++ L2) ++ M2 := by simp only [List.mem_append] at hg ⊢; rcases hg with h | h <;> simp [h]
        exact ⟨Nat.lt_of_lt_of_le (hlt g hg').1 hk.size, .inl hg'⟩
def D.plain : D → Bool
  | .lit _ => true
  | _ => false
theorem RDs.plain {F F' : Nat → Prop} {w : World} : ∀ {ds : List D} {k : Nat} {r : Rho} {us : List Value}, RDs F w (D.erases ds) k r us [] → (∀ d ∈ ds, d.plain = true) → RDs F' w ds k r us []
  | [], _, _, _, h, _ => by simpa only [RDs, D.erases] using h
  | d :: ds, k, r, us, h, hp => by
    simp only [RDs, D.erases] at h ⊢
    obtain ⟨u, us', L1, L2, rfl, e, h1, h2⟩ := h
    simp only [List.nil_eq, List.append_eq_nil_iff] at e
    obtain ⟨rfl, rfl⟩ := e
    refine ⟨u, us', [], [], rfl, rfl, ?_, RDs.plain h2 (fun d hd => hp d (by simp [hd]))⟩
    have := hp d (by simp)
    cases d <;> simp [D.plain] at this
    simpa only [RD, D.erase] using h1
theorem step_append_view {d : Nat} {s x : Operand} {T : TypeId} {sz : Nat} {cs ds : List D} {rd rd2 : List Nat} {up : List (Nat × AV)} {ty pos aft g} [hT : SliceTy P T sz] (h : Give st s rd (.sl true sz cs) up) (hv : View (puts st up) x rd2 sz ds) (hp : ∀ c ∈ ds, c.plain = true) (hb : cs.length + ds.length ≤ 1099511627776) (hd : n d = true) :
    Step P n ⟨some d, .call ⟨.builtin .append, #[s, x], #[T, T]⟩, ty, pos, aft, g⟩ nid st (rd ++ rd2) (up ++ [(d, .own nid (.sl true sz (cs ++ ds)))]) := by
  intro X st' hs hX f a w hn hrep K Q hK
  obtain ⟨ρ, L, hr⟩ := hrep
  subst hn
  obtain ⟨r, L', M1, hm, hv1⟩ := hr.toM.give (h.agree fun s hs' => hs s (by simp [hs']))
  rw [puts_append] at hK
  rw [List.nil_append] at hm
  have hv' : View (puts st' up) x rd2 sz ds := hv.agree fun s hs' => puts_agree _ _ (hs s (by simp [hs']))
  obtain ⟨us, r2, ⟨a0, n0, c0, e0, h1, h2, h3, h4⟩, h5⟩ := hv'.read hm.rep
  obtain ⟨v', w', r', L1, Mw, hrun, hMw, hk, hRD, hnd, hL1⟩ := RD.longer (P := P) (T := T) (ty := ty) w hv1 (fun g hg => hm.rep.F_lt hg) a0 n0 c0 us h1.symm (fun hne => let ⟨b, e, _, hc⟩ := h4 hne; ⟨b, e, hc⟩) (RDs.plain (F' := f.F) h5 hp) hb (by simpa using hm.nd) (fun g hg => hm.bound g (by simpa using hg))
  refine wp_of_value (u := v') (w' := w') ?_ (hm.put_root hK hd hX _ _ Mw hMw hk r' L1 hRD hnd (fun g hg => by simpa using hL1 g hg))
  simp [execOp, resolve, invoke, builtin, e0, hrun]
theorem step_append_sh {d t : Nat} {s : Operand} {T : TypeId} {sz : Nat} {cs ds : List D} {rd : List Nat} {up : List (Nat × AV)} {ty pos aft g} [hT : SliceTy P T sz] (h : Give st s rd (.sl true sz cs) up) (hv : puts st up t = .c (.sl false sz ds)) (hb : cs.length + ds.length ≤ 1099511627776) (hd : n d = true) :
    Step P n ⟨some d, .call ⟨.builtin .append, #[s, .tmp t], #[T, T]⟩, ty, pos, aft, g⟩ nid st (rd ++ [t]) (up ++ [(d, .own nid (.sl true sz (cs ++ ds)))]) := by
  intro X st' hs hX f a w hn hrep K Q hK
  obtain ⟨ρ, L, hr⟩ := hrep
  subst hn
  obtain ⟨r, L', M1, hm, hv1⟩ := hr.toM.give (h.agree fun s hs' => hs s (by simp [hs']))
  rw [puts_append] at hK
  rw [List.nil_append] at hm
  have ht := hm.rep.slots t
  rw [(puts_agree _ _ (hs t (by simp))).trans hv] at ht
  simp only [SR, RD] at ht
  obtain ⟨_, r2, _, us, ⟨a0, n0, c0, e0, h1, h2, h3, h4⟩, h5⟩ := ht
  obtain ⟨v', w', r', L1, Mw, hrun, hMw, hk, hRD, hnd, hL1⟩ := RD.longer (P := P) (T := T) (ty := ty) w hv1 (fun g hg => hm.rep.F_lt hg) a0 n0 c0 us h1.symm (fun hne => let ⟨b, e, _, hc⟩ := h4 hne; ⟨b, e, hc⟩) h5 hb (by simpa using hm.nd) (fun g hg => hm.bound g (by simpa using hg))
  have e1 : a.eval (.tmp t) = _ := e0
  refine wp_of_value (u := v') (w' := w') ?_ (hm.put_root hK hd hX _ _ Mw hMw hk r' L1 hRD hnd (fun g hg => by simpa using hL1 g hg))
  simp [execOp, resolve, invoke, builtin, e1, hrun]
theorem step_append_give {d : Nat} {s x : Operand} {T : TypeId} {sz : Nat} {cs ds : List D} {rd rd2 : List Nat} {up up2 : List (Nat × AV)} {ty pos aft g} [hT : SliceTy P T sz] (h : Give st s rd (.sl true sz cs) up) (hv : Give (puts st up) x rd2 (.sl true sz ds) up2) (hb : cs.length + ds.length ≤ 1099511627776) (hd : n d = true) :
    Step P n ⟨some d, .call ⟨.builtin .append, #[s, x], #[T, T]⟩, ty, pos, aft, g⟩ nid st (rd ++ rd2) ((up ++ up2) ++ [(d, .own nid (.sl true sz (cs ++ ds)))]) := by
  intro X st' hs hX f a w hn hrep K Q hK
  obtain ⟨ρ, L, hr⟩ := hrep
  subst hn
  obtain ⟨r, L', M1, hm, hv1⟩ := hr.toM.give (h.agree fun s hs' => hs s (by simp [hs']))
  rw [puts_append, puts_append] at hK
  rw [List.nil_append] at hm
  have hv' := hv.agree (st' := puts st' up) fun s hs' => puts_agree _ _ (hs s (by simp [hs']))
  obtain ⟨r2, L2, M2, hm2, hv2⟩ := hm.give hv'
  simp only [RD] at hv2
  obtain ⟨_, us, L0, L3, rfl, h1, h5⟩ := hv2
  have hsh : ∃ a0 n0 c0, a.eval x = .slice a0 n0 c0 ∧ us.length = n0 * sz ∧ (us ≠ [] → ∃ b, a0 = some b ∧ ∀ (j : Nat) (u : Value), us[j]? = some u → w.cell? (b.add j) = some u) := by
    obtain ⟨a0, n0, c0, e0, f1, f2, f3, f4⟩ := h1.shRow (fun g hg => (hm2.bound g (by simp [hg])).1)
    exact ⟨a0, n0, c0, e0, f1.symm, fun hne => let ⟨b, e, _, hc⟩ := f4 hne; ⟨b, e, hc⟩⟩
  obtain ⟨a0, n0, c0, e0, f1, f2⟩ := hsh
  have hnd2 := hm2.nd
  obtain ⟨v', w', r', L1, Mw, hrun, hMw, hk, hRD, hnd, hL1⟩ := RD.longer (P := P) (T := T) (ty := ty) w hv1 (fun g hg => hm.rep.F_lt hg) a0 n0 c0 us f1 f2 h5 hb
    (by simp only [List.nodup_append, List.mem_append] at hnd2 ⊢; grind) (fun g hg => hm2.bound g (by simp only [List.mem_append] at hg ⊢; grind))
  refine wp_of_value (u := v') (w' := w') ?_ (hm2.put_root hK hd hX _ _ Mw (fun g hg => by simp [hMw g hg]) hk r' L1 hRD hnd (fun g hg => ⟨(hL1 g hg).1, by have := (hL1 g hg).2; simp only [List.mem_append] at this ⊢; grind⟩))
  simp [execOp, resolve, invoke, builtin, e0, hrun]
end
end Go.Pv
