/- Literals of structures, and of slices of structures; elements that are structures of one cell. No condition. -/
import Derived.Test.YtmgmpnhlehonmaaGreatWGrB
import Derived.Laws.Tables
set_option linter.unusedVariables false
set_option linter.unusedSimpArgs false
namespace Go.Pv
open Go.RowKit
section
variable {P : Program} {n : NN} {nid : Nat} {st : Nat -> AV} {f : Fr} {X : Nat -> Prop} {a : Act} {w : World} {ρ : Nat -> Rho} {L : Nat -> List Nat} {M : List Nat}
theorem Xk.giveV (h : Xk f X st a w ρ L M) {x : Operand} {rd : List Nat} {ds : List D} {up : List (Nat × AV)} (hg : Qg st x rd ds up) :
  ∃ r L' M1 us, Xk f X (Zn st up) a w ρ L' (M ++ M1) /\ (a.eval x).cells.toList = us /\ RDs f.F w ds 0 r us M1 := by
 cases hg with
 | one hg =>
  obtain ⟨r, L', M1, hm, hr⟩ := h.give hg
  refine ⟨fun π => match π with | [] => undef | j :: q => r q, L', M1, [a.eval x], hm, by rw [Je hr.one], ?_⟩
  simp only [RDs]
  exact ⟨_, _, M1, [], rfl, by simp, RD.rho _ r _ _ _ hr (fun π => by simp [Rho.at]), rfl, rfl⟩
 | @agg t l ds ht hl =>
  have h1 := h.rep.slots t
  rw [ht] at h1
  simp only [SR] at h1
  obtain ⟨vs, e0, h1⟩ := h1
  obtain ⟨r, h2⟩ := h1.dats l _ 0 vs (L t) hl
  have hm := h.detach t .dead [] (L t) w7 u3 (fun g hg => by simpa using hg) List.nodup_nil (h.rep.nodup t) (by simp)
  exact ⟨r, _, L t, vs, hm, by rw [show a.eval (.tmp t) = _ from e0]; simp [Value.cells], h2⟩
 | @parts t l rd ds up ht hl =>
  have h1 := h.rep.slots t
  rw [ht] at h1
  simp only [SR] at h1
  obtain ⟨vs, e0, h1⟩ := h1
  obtain ⟨r, L', M1, hm, h2⟩ := h.givesE hl 0 h1
  exact ⟨r, L', M1, vs, hm, by rw [show a.eval (.tmp t) = _ from e0]; simp [Value.cells], h2⟩
theorem Zb0 {F : Nat -> Prop} : ∀ {ds : List D} {k : Nat} {r r' : Rho} {us : List Value} {L : List Nat}, RDs F w ds k r us L -> (∀ j, k <= j -> j < k + ds.length -> r'.at j = r.at j) -> RDs F w ds k r' us L
 | [], _, _, _, _, _, h, _ => by simpa only [RDs] using h
 | d :: ds, k, r, r', us, L, h, e => by
  simp only [RDs] at h ⊢
  obtain ⟨u, us', L1, L2, rfl, rfl, h1, h2⟩ := h
  exact ⟨u, us', L1, L2, rfl, rfl, by rw [e k (Nat.le_refl _) (by simp)]; exact h1, Zb0 h2 fun j hj hl => e j j2 x3⟩
inductive Qz : (Nat -> AV) -> List Operand -> List Nat -> List (List D) -> List (Nat × AV) -> Prop
 | nil {s0} : Qz s0 [] [] [] []
 | cons {s0 x xs rd rds d ds up ups} : Qg s0 x rd d up -> Qz (Zn s0 up) xs rds ds ups -> Qz s0 (x :: xs) (rd ++ rds) (d :: ds) (up ++ ups)
theorem Qz.agree : ∀ {st st' : Nat -> AV} {xs : List Operand} {rd : List Nat} {ds : List (List D)} {up : List (Nat × AV)}, Qz st xs rd ds up -> (∀ s ∈ rd, st' s = st s) -> Qz st' xs rd ds up
 | _, _, _, _, _, _, .nil, _ => .nil
 | _, _, _, _, _, _, .cons h1 h2, hs => .cons (h1.agree fun s hs' => hs s q9) (Qz.agree h2 fun s hs' => Xa _ _ (hs s q9))
theorem Xk.givesV : ∀ {st : Nat -> AV} {L : Nat -> List Nat} {M : List Nat}, Xk f X st a w ρ L M -> ∀ {xs : List Operand} {rd : List Nat} {dss : List (List D)} {up : List (Nat × AV)}, Qz st xs rd dss up -> ∀ k : Nat,
  ∃ r L' M1, Xk f X (Zn st up) a w ρ L' (M ++ M1) /\ RDs f.F w dss.flatten k r (xs.map fun x => (a.eval x).cells.toList).flatten M1 /\ (xs.map fun x => (a.eval x).cells.toList.length) = dss.map List.length
 | st, L, M, h, _, _, _, _, .nil, k => ⟨fun _ => undef, L, [], by simpa [Zn] using h, by simp [RDs], rfl⟩
 | st, L, M, h, _, _, _, _, .cons (x := x) (xs := xs) (d := d) (ds := dss) h1 h2, k => by
  obtain ⟨r1, L1, M1, us, hm1, hus, hr1⟩ := h.giveV h1
  obtain ⟨r2, L2, M2, hm2, hr2, hl2⟩ := Xk.givesV hm1 h2 (k + d.length)
  have hlen := hr1.length
  refine ⟨(fun π => match π with | [] => undef | j :: q => if j < k + d.length then r1 ((j - k) :: q) else r2 (j :: q)), L2, M1 ++ M2, ?_, ?_, ?_⟩
  ·rw [Zx, <- List.append_assoc]; exact hm2
  ·simp only [List.map_cons, List.flatten_cons, hus]
   have e1 := RDs.unshift d 0 k r1 us M1 hr1
   rw [Nat.zero_add] at e1
   refine RDs.append d dss.flatten k _ us _ M1 M2 ?_ ?_
   ·exact Zb0 e1 fun j hj hjl => by
     funext π
     simp [Rho.at, show j < k + d.length from hjl]
   ·exact RDs.rho _ _ r2 _ _ _ hr2 fun j hj => by
     funext π
     simp [Rho.at, show ¬ j < k + d.length from by omega]
  ·simp only [List.map_cons, hus, hl2, hlen]
theorem Ha (off : Nat) : ∀ (vs : List Value) (k : Nat) (init : Array Value), off + k + vs.length <= init.size ->
  (vs.zipIdx k).foldl (fun (cs : Array Value) (x : Value × Nat) => cs.setIfInBounds (off + x.2) x.1) init = (init.toList.take (off + k) ++ (vs ++ init.toList.drop (off + k + vs.length))).toArray
 | [], k, init, _ => by simp
 | v :: vs, k, init, h => by
  simp only [List.length_cons] at h
  simp only [List.zipIdx_cons, List.foldl_cons]
  rw [Ha off vs (k + 1) (init.setIfInBounds (off + k) v) u4]
  congr 1
  rw [Array.toList_setIfInBounds]
  apply List.ext_getElem?
  intro j
  simp only [List.getElem?_append, List.length_take, List.length_set, Array.length_toList, List.getElem?_take, List.getElem?_set, List.getElem?_drop, List.length_cons, List.getElem?_cons]
  grind
theorem Zgw (place : Nat -> Option (Nat × Nat)) : ∀ (vs : List Value) (i off : Nat) (init : Array Value), (∀ j v, vs[j]? = some v -> place (i + j) = some (off + ((vs.take j).map fun u => u.cells.toList.length).sum, v.cells.toList.length)) ->
  off + (vs.map fun u => u.cells.toList.length).sum <= init.size ->
  Instr.fill place init ((vs.zipIdx i).map fun p => (p.2, p.1)) = some (init.toList.take off ++ ((vs.map fun u => u.cells.toList).flatten ++ init.toList.drop (off + (vs.map fun u => u.cells.toList.length).sum))).toArray
 | [], i, off, init, _, _ => by simp [Instr.fill]
 | v :: vs, i, off, init, hp, hs => by
  have h0 := hp 0 v rfl
  simp only [Nat.add_zero, List.take_zero, List.map_nil, List.sum_nil] at h0
  simp only [List.map_cons, List.sum_cons] at hs
  simp only [List.zipIdx_cons, List.map_cons, Instr.fill, h0]
  have hsz : v.cells.size = v.cells.toList.length := by simp
  rw [if_neg (by rw [hsz]; simp only [ne_eq, not_true_eq_false, decide_false, Bool.false_or, decide_eq_true_eq]; omega)]
  have hf : (v.cells.zipIdx.foldl (fun cs (x : Value × Nat) => cs.setIfInBounds (off + x.2) x.1) init) = (init.toList.take off ++ (v.cells.toList ++ init.toList.drop (off + v.cells.toList.length))).toArray := by
   rw [<- Array.foldl_toList, Array.toList_zipIdx]
   have := Ha off v.cells.toList 0 init j2
   simpa using this
  rw [hf]
  generalize hc : v.cells.toList = c at *
  have hX : (init.toList.take off).length = off := by rw [List.length_take, Array.length_toList]; omega
  generalize hI : init.toList.take off = X0 at *
  generalize hY : init.toList.drop (off + c.length) = Y0 at *
  have hYl : Y0.length = init.size - (off + c.length) := by rw [<- hY, List.length_drop, Array.length_toList]
  rw [Zgw place vs (i + 1) (off + c.length) _ (fun j u hj => by
   have := hp (j + 1) u (by simpa using hj)
   rw [show i + 1 + j = i + (j + 1) by omega, this]
   simp only [List.take_succ_cons, List.map_cons, List.sum_cons, hc]
   congr 2
   omega) (by simp only [List.size_toArray, List.length_append, hX, hYl]; omega)]
  have e1 : (X0 ++ (c ++ Y0)).take (off + c.length) = X0 ++ c := by
   rw [<- List.append_assoc]
   exact List.take_left' (by rw [List.length_append, hX])
  have e2 : (X0 ++ (c ++ Y0)).drop (off + c.length + (vs.map fun u => u.cells.toList.length).sum) = init.toList.drop (off + (c.length + (vs.map fun u => u.cells.toList.length).sum)) := by
   rw [<- List.drop_drop, <- List.append_assoc, List.drop_left' (by rw [List.length_append, hX]), <- hY, List.drop_drop]
   congr 1; omega
  simp only [List.flatten_cons, List.sum_cons, hc, List.map_cons]
  rw [e1, e2]
  simp only [List.append_assoc]
end
section
variable {P : Program} {n : NN} {nid : Nat} {st : Nat -> AV} {f : Fr} {X : Nat -> Prop} {a : Act} {w : World} {ρ : Nat -> Rho} {L : Nat -> List Nat} {M : List Nat}
def Jk : List Nat -> Nat -> List (Nat × Nat)
 | [], _ => []
 | s :: r, off => (off, s) :: Jk r (off + s)
theorem Hb : ∀ (szs : List Nat) (off j s : Nat), szs[j]? = some s -> (Jk szs off)[j]? = some (off + (szs.take j).sum, s)
 | [], _, _, _, h => by simp at h
 | a :: r, off, 0, s, h => by simp at h; subst h; simp [Jk]
 | a :: r, off, j + 1, s, h => by
  simp only [Jk, List.getElem?_cons_succ, List.take_succ_cons, List.sum_cons]
  rw [Hb r (off + a) j s v6]
  congr 2
  omega
class Um (P : Program) (T : TypeId) (szs : outParam (List Nat)) : Prop where
 out : ∃ z fs, (P.info? T).map (·.zero) = some (some z) /\ P.underlying T = some (.struct fs) /\ fs.toList.mapM (fun f => (P.info? f.type).map fun i => (f.offset, i.size)) = some (Jk szs 0) /\ z.cells.size = szs.sum
theorem Zi3 {T : TypeId} {szs : List Nat} [hT : Um P T szs] (w : World) (parts : Array (Nat × Value)) (vs : List Value) (hp : parts.toList = vs.zipIdx.map fun p => (p.2, p.1)) (hl : (vs.map fun u => u.cells.toList.length) = szs) :
  (Instr.build T parts).run P w = .ok (.agg (vs.map fun u => u.cells.toList).flatten.toArray) w := by
 obtain ⟨z, fs, h1, h2, h3, h4⟩ := hT.out
 refine run_build w T parts _ ?_
 obtain ⟨i, hi, hz⟩ := Option.map_eq_some_iff.1 h1
 unfold Program.built
 simp only [hi, h2, hz, h3, hp]
 have := Zgw (fun k => (Jk szs 0).toArray[k]?) vs 0 0 z.cells (fun j v hj => by
  have hs : szs[j]? = some v.cells.toList.length := by rw [<- hl, List.getElem?_map, hj]; rfl
  have := Hb szs 0 j _ hs
  rw [Nat.zero_add, List.getElem?_toArray, this, <- hl, List.map_take]) (by rw [hl]; omega)
 rw [this]
 congr 1
 rw [hl, List.drop_eq_nil_of_le u4]
 simp
theorem Zjo {ps : Array (Nat × Operand)} {len : Nat} {ev : Operand -> Value} (hi : ps.toList.map (·.1) = List.range len) : (ps.map fun (i, x) => (i, ev x)).toList = ((ps.toList.map (·.2)).map ev).zipIdx.map fun p => (p.2, p.1) := by
 rw [Array.toList_map]
 apply List.ext_getElem?
 intro j
 have hj : (ps.toList.map (·.1))[j]? = (List.range len)[j]? := by rw [hi]
 have hlen : ps.toList.length = len := by have := congrArg List.length hi; simpa using this
 simp only [List.getElem?_map, List.getElem?_zipIdx, Nat.zero_add] at hj ⊢
 cases hp : ps.toList[j]? with
 | none => simp
 | some p =>
  simp only [hp, Option.map_some] at hj ⊢
  have hlt : j < len := by rw [<- hlen]; exact (List.getElem?_eq_some_iff.1 hp).1
  simp only [List.getElem?_range hlt, Option.some.injEq] at hj
  obtain ⟨p1, p2⟩ := p
  simp only at hj
  subst hj
  rfl
theorem Zo9 {d : Nat} {T : TypeId} {szs : List Nat} {ps : Array (Nat × Operand)} {rd : List Nat} {dss : List (List D)} {up : List (Nat × AV)} {ty pos aft g} [hT : Um P T szs] (h : Qz st (ps.toList.map (·.2)) rd dss up) (hi : ps.toList.map (·.1) = List.range szs.length) (hl : dss.map List.length = szs) (hd : n d = true) :
  Zg P n ⟨some d, .build T ps, ty, pos, aft, g⟩ nid st rd (up ++ [(d, .agg (dss.flatten.map AV.raw))]) := by
 intro X st' hs hX f a w hn hrep K Q hK
 obtain ⟨ρ, L, hr⟩ := hrep
 subst hn
 obtain ⟨r, L', M1, hm, hv, hlen⟩ := hr.toM.givesV (h.agree hs) 0
 rw [Zx] at hK
 rw [List.nil_append] at hm
 have hrun := Zi3 (P := P) (T := T) (szs := szs) w (ps.map fun (i, x) => (i, a.eval x)) ((ps.toList.map (·.2)).map a.eval) (Zjo hi) (by rw [List.map_map, <- hl, <- hlen, List.map_map, List.map_map]; rfl)
 have hus : ((ps.toList.map (·.2)).map fun x => (a.eval x).cells.toList) = (((ps.toList.map (·.2)).map a.eval).map fun u => u.cells.toList) := by rw [List.map_map, List.map_map, List.map_map]; rfl
 rw [hus] at hv
 refine wV_ (u := .agg (((ps.toList.map (·.2)).map a.eval).map fun u => u.cells.toList).flatten.toArray) (w' := w) ?_ (hm.put_raw (id := nid) (K := K) hK hd _ w [] (by simp) (Zy.refl w) M1 ?_ hm.nd (fun g hg => ⟨(hm.bound g hg).1, .inl hg⟩) ?_)
 ·simp only [execOp, Sem.run_bind]
  rw [hrun]
  rfl
 ·simp only [SR]
  exact ⟨_, rfl, Ks _ 0 r _ _ hv⟩
 ·simp only [AV.ids, J8]; simp
theorem Zgx {d len sz : Nat} {T : TypeId} {ps : Array (Nat × Operand)} {rd : List Nat} {dss : List (List D)} {up : List (Nat × AV)} {ty pos aft g} [hT : Zu P T sz] (h : Qz st (ps.toList.map (·.2)) rd dss up) (hi : ps.toList.map (·.1) = List.range len) (hl : dss.map List.length = List.replicate len sz) (hlen : len <= 1000) (hpos : 0 < len) (hd : n d = true) :
  Zg P n ⟨some d, .buildSlice T len ps, ty, pos, aft, g⟩ nid st rd (up ++ [(d, .own nid (.sl true sz dss.flatten))]) := by
 intro X st' hs hX f a w hn hrep K Q hK
 obtain ⟨ρ, L, hr⟩ := hrep
 subst hn
 obtain ⟨r, L', M1, hm, hv, hll⟩ := hr.toM.givesV (h.agree hs) 0
 rw [Zx] at hK
 rw [List.nil_append] at hm
 obtain ⟨e, i, z, t1, t2, t3, t6, t7, _, t4, t5⟩ := hT.out
 have hvl := hv.length
 have hus : ((ps.toList.map (·.2)).map fun x => (a.eval x).cells.toList) = (((ps.toList.map (·.2)).map a.eval).map fun u => u.cells.toList) := by rw [List.map_map, List.map_map, List.map_map]; rfl
 have hlens : (((ps.toList.map (·.2)).map a.eval).map fun u => u.cells.toList.length) = List.replicate len sz := by rw [List.map_map, <- hl, <- hll, List.map_map, List.map_map]; rfl
 rw [hus] at hv hvl
 have hparts := Zjo (ps := ps) (len := len) (ev := a.eval) hi
 generalize hvs : (ps.toList.map (·.2)).map a.eval = vs at *
 have hsum : (vs.map fun u => u.cells.toList.length).sum = len * sz := by rw [hlens]; simp
 generalize hcs : (vs.map fun u => u.cells.toList).flatten = us at *
 have hul : us.length = len * sz := by rw [<- hcs, List.length_flatten, List.map_map, <- hsum]; rfl
 have hsame : ∀ g, g < w.heap.size -> Vh w (w.alloc (.cells us.toArray e)) g := fun g hg => Below.heap_alloc w _ g hg
 have hpz : 0 < len * sz := Nat.mul_pos hpos t6
 have hle : len * sz <= 16000 := by
  have := Nat.mul_le_mul hlen t7
  omega
 have hfill : Instr.fill (fun k => some (k * sz, sz)) ((Array.range (len * sz)).map (fun x => z.cells[x % z.cells.size]!)) (vs.zipIdx.map fun p => (p.2, p.1)) = some us.toArray := by
  have := Zgw (fun k => some (k * sz, sz)) vs 0 0 ((Array.range (len * sz)).map (fun x => z.cells[x % z.cells.size]!)) (fun j v hj => by
   have h1 : (vs.map fun u => u.cells.toList.length)[j]? = some v.cells.toList.length := by rw [List.getElem?_map, hj]; rfl
   rw [hlens, List.getElem?_replicate] at h1
   split at h1
   ·rename_i hjl
    have h2 : ((vs.take j).map fun u => u.cells.toList.length).sum = j * sz := by
     rw [List.map_take, hlens, List.take_replicate, Nat.min_eq_left j2]; simp
    rw [h2, Nat.zero_add, Nat.zero_add, <- Option.some.inj h1]
   ·cases h1) (by rw [hsum]; simp)
  rw [this, hsum, hcs]
  congr 1
  rw [List.drop_eq_nil_of_le (by simp)]
  simp
 have hrun : (Instr.buildSlice T len (ps.map fun (i, x) => (i, a.eval x))).run P w = .ok (.slice (some ⟨w.heap.size, 0, none⟩) len len) (w.alloc (.cells us.toArray e)) := by
  have hparts' : ps.toList.map (fun x => (x.fst, a.eval x.snd)) = vs.zipIdx.map fun p => (p.2, p.1) := by rw [<- hparts, Array.toList_map]
  simp [Instr.buildSlice, run_underlying t1, sizeOf, typeInfo, zeroValue, t2, t3, t4, hparts', newRow, show ¬ (len * sz = 0) from by omega, show ¬ (16777216 < len * sz) from by omega, hfill, show ¬ len = 0 from by omega, show ¬ sz = 0 from by omega]
 refine wV_ (u := .slice (some ⟨w.heap.size, 0, none⟩) len len) (w' := w.alloc (.cells us.toArray e)) ?_
  (hm.put_root hK hd hX _ _ [] (by simp) (Zy.alloc w _) (fun π => match π with | [] => .slice (some ⟨w.heap.size, 0, none⟩) len len | j :: q => r (j :: q)) (w.heap.size :: M1) ?_ ?_ ?_)
 ·simp only [execOp, Sem.run_bind, hrun, Result.andThen_ok, Sem.run_pure]
 ·simp only [RD]
  refine ⟨trivial, us, [w.heap.size], M1, rfl, .mk0 ⟨w.heap.size, len, len, us.toArray, e, rfl, U4 w _, hul.symm, Nat.le_refl _, by unfold maxLen; omega, by simpa using hul, ?_, rfl⟩, ?_⟩
  ·exact List.take_of_length_le u4
  ·exact RDs.rho _ 0 r _ us M1 (RDs.same (fun _ h => h) (fun g hg => hsame g (hm.rep.F_lt hg)) _ 0 r us M1 hv (fun g hg => hsame g (hm.bound g hg).1)) (fun j _ => rfl)
 ·rw [List.nodup_cons]
  exact ⟨fun hg => by have := (hm.bound _ hg).1; omega, hm.nd⟩
 ·intro g hg
  rw [List.mem_cons] at hg
  rcases hg with rfl | hg
  ·exact ⟨by simp, .inr (Nat.le_refl _)⟩
  ·exact ⟨by simp; have := (hm.bound g hg).1; omega, .inl hg⟩
theorem Zgy {α : Type} {l : List α} {i : Nat} {c : α} (h : l[i]? = some c) : (l.drop i).take 1 = [c] := by
 obtain ⟨hlt, rfl⟩ := List.getElem?_eq_some_iff.1 h
 rw [List.drop_eq_getElem_cons hlt]; rfl
theorem Zfb {d t x id off : Nat} {path : List Nat} {T : TypeId} {dd d1 c : D} {cs : List D} {ty pos aft g} [X8 P T 1] (h : st t = .ptr x id path off) (hx : st x = .own id dd) (hn' : dd.nav path = some d1) (hk : d1.kids = some cs) (hc : cs[off]? = some c) (hd : n d = true) :
  Zg P n ⟨some d, .load T (.tmp t), ty, pos, aft, g⟩ nid st [t, x] [(d, .agg [V9 x id (path ++ [off]) c])] := by
 have := Zbq (P := P) (n := n) (nid := nid) (T := T) (d := d) (ty := ty) (pos := pos) (aft := aft) (g := g) (.ptr h hx) hn' hk (by have := (List.getElem?_eq_some_iff.1 hc).1; omega) (by decide) hd
 rwa [Zgy hc] at this
theorem Zgz {d t off : Nat} {T : TypeId} {c : D} {cs : List D} {ty pos aft g} [X8 P T 1] (h : st t = .sptr cs off) (hc : cs[off]? = some c) (hd : n d = true) :
  Zg P n ⟨some d, .load T (.tmp t), ty, pos, aft, g⟩ nid st [t] [(d, .agg [.c c])] := by
 have := Zak (P := P) (n := n) (nid := nid) (T := T) (d := d) (ty := ty) (pos := pos) (aft := aft) (g := g) h (by have := (List.getElem?_eq_some_iff.1 hc).1; omega) hd
 rwa [Zgy hc] at this
theorem Um.of {T : TypeId} {szs : List Nat} {z : Value} {fs : Array Field} (hu : P.underlying T = some (.struct fs)) (hz : (P.info? T).map (·.zero) = some (some z)) (hp : (fs.toList.mapM fun f => (P.info? f.type).map fun i => (f.offset, i.size)) = some (Jk szs 0)) (hs : z.cells.size = szs.sum) : Um P T szs := ⟨z, fs, hz, hu, hp, hs⟩
end
end Go.Pv
