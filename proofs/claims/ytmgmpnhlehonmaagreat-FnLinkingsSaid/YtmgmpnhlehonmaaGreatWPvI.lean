/- Contracts of functions over data, and the step that a call is. No condition. -/
import Derived.Test.YtmgmpnhlehonmaaGreatWPvF
set_option linter.unusedVariables false
set_option linter.unusedSimpArgs false
namespace Go.Pv
open Go.RowKit
section
variable {P : Program} {n : NN} {nid : Nat} {st : Nat -> AV} {f : Fr} {X : Nat -> Prop} {a : Act} {w : World} {ρ : Nat -> Rho} {L : Nat -> List Nat} {M : List Nat}
theorem Zc4 (w : World) (t ty e e' : TypeId) (i : TypeInfo) (ht : P.underlying t = some (.slice e)) (hi : P.info? e = some i)
  (g o sLen sCap : Nat) (cur : Array Value) (hg : w.heap[g]? = some (.cells cur e' (0, 0)))
  (b : Addr) (m c : Nat) (news : List Value) (hl : news.length = m * i.size) (hnews : ∀ j u, news[j]? = some u -> w.cell? (b.add j) = some u) (h1 : ∀ u ∈ news, u.oneCell' = true)
  (hroom : sLen + m <= sCap) (hfit : o + sLen * i.size + news.length <= cur.size) :
  (Builtin.append_ #[t, t] ty #[.slice (some ⟨g, o, none⟩) sLen sCap, .slice (some b) m c]).run P w =
   .ok (.slice (some ⟨g, o, none⟩) (sLen + m) sCap) (w.setRow g (cur.toList.take (o + sLen * i.size) ++ news ++ cur.toList.drop (o + sLen * i.size + news.length)).toArray) := by
 have hf := run_firstCells_some (P := P) w i.size m b m c news hl hnews
 have hst := run_storeCells_at P g (o + sLen * i.size) e' news 0 cur w hg (by simpa using hfit) h1
 simp only [Nat.add_zero] at hst
 simp [Builtin.append_, run_underlying ht, sizeOf, typeInfo, hi, Builtin.lenOf, hroom, hf, Vn, hst]
theorem Zey {T ty : TypeId} {sz : Nat} [hT : Zu P T sz] (w : World) (v : Value) (us : List Value) (L0 : List Nat) (h : Row w v sz us L0) (a0 : Option Addr) (c : Nat) :
  (Builtin.append_ #[T, T] ty #[v, .slice a0 0 c]).run P w = .ok v w := by
 obtain ⟨e, i, z, t1, t2, t3, _⟩ := hT.out
 rcases h with ⟨rfl, _, _⟩ | ⟨g, o, n, cap, cur, e', rfl, h2, h3, h4, _⟩
 ·cases a0 <;> simp [Builtin.append_, run_underlying t1, sizeOf, typeInfo, t2, Builtin.lenOf, Builtin.firstCells, loadCells, loadCellsFrom]
 ·cases a0 <;> simp [Builtin.append_, run_underlying t1, sizeOf, typeInfo, t2, Builtin.lenOf, Builtin.firstCells, loadCells, loadCellsFrom, h4, storeCells]
theorem Zy.grow (w : World) (o : Obj) (M : List Nat) : Zy w M (w.drew.alloc o) :=
 ⟨rfl, rfl, rfl, by simp, fun g hg _ => Below.heap_alloc w.drew o g (by simpa using hg), Nat.le_succ _⟩
theorem Zgh {T ty : TypeId} {sz : Nat} [hT : Zu P T sz] (w : World) (v : Value) (us : List Value) (L0 : List Nat) (h : Row w v sz us L0) (a0 : Option Addr) (m c : Nat) (us2 : List Value) (hl : us2.length = m * sz)
  (hcells : us2 ≠ [] -> ∃ b, a0 = some b /\ ∀ (j : Nat) (u : Value), us2[j]? = some u -> w.cell? (b.add j) = some u) (h1 : ∀ u ∈ us2, u.oneCell' = true) (hb : us.length + us2.length <= 1099511627776) :
  ∃ v' w' L0', (Builtin.append_ #[T, T] ty #[v, .slice a0 m c]).run P w = .ok v' w' /\ Row w' v' sz (us ++ us2) L0' /\ Zy w L0 w' /\ (L0' = L0 \/ (L0' = [w.heap.size] /\ w.heap.size < w'.heap.size /\ Zy w [] w')) := by
 obtain ⟨e, i, z, t1, t2, t3, t4, t5, t6, t7, t8⟩ := hT.out
 by_cases hne : us2 = []
 ·subst hne
  have hm : m = 0 := by
   simp only [List.length_nil] at hl
   rcases Nat.mul_eq_zero.1 hl.symm with h | h <;> omega
  subst hm
  exact ⟨v, w, L0, Zey w v us L0 h a0 c, by simpa using h, ⟨rfl, rfl, rfl, Nat.le_refl _, fun _ _ _ => rfl, Nat.le_refl _⟩, .inl rfl⟩
 ·obtain ⟨b, rfl, hc⟩ := hcells hne
  have hm0 : 0 < m := by
   rcases Nat.eq_zero_or_pos m with rfl | h
   ·simp at hl; exact absurd hl hne
   ·exact h
  have hml : m <= us2.length := by rw [hl]; exact Nat.le_mul_of_pos_right m t4
  subst t3
  have hgrown : ∀ (old : Nat) (nn : Nat), nn * i.size = us.length ->
    Row (w.drew.alloc (.cells (us.toArray ++ us2.toArray ++ Builtin.zeroCells z.cells (grownCap w (nn + m) old e - (nn + m))) e)) (.slice (some ⟨w.heap.size, 0, none⟩) (nn + m) (grownCap w (nn + m) old e)) i.size (us ++ us2) [w.heap.size] := by
   intro old nn hnn
   have hge := grownCap_ge w (nn + m) old e
   have hnl : nn <= us.length := by rw [<- hnn]; exact Nat.le_mul_of_pos_right nn t4
   have hcm : grownCap w (nn + m) old e <= maxLen := grownCap_le_maxLen w (nn + m) old e (by unfold maxLen; omega)
   refine .mk0 ⟨w.heap.size, _, _, _, e, rfl, U4 w.drew _, ?_, hge, hcm, ?_, ?_, rfl⟩
   ·rw [List.length_append, hl, Nat.add_mul, hnn]
   ·simp only [Array.size_append, List.size_toArray, size_zeroCells, t8, hl, <- hnn, <- Nat.add_mul]
    congr 1
    omega
   ·simp only [Array.toList_append, List.append_assoc]
    have : (nn + m) * i.size = (us ++ us2).length := by rw [List.length_append, hl, Nat.add_mul, hnn]
    rw [this, <- List.append_assoc]
    exact List.take_left
  rcases h with ⟨rfl, rfl, rfl⟩ | ⟨g, o, nn, cap, cur, e', rfl, h2, h3, h4, h5, h6, h7, rfl⟩
  ·have hbm : m * i.bytes <= 281474976710656 := Nat.le_trans (Nat.mul_le_mul_left m t6) j2
   have hr := run_append_nil (P := P) w T ty e i z t1 t2 t7 b m c us2 hl hc hm0 j2 hbm
   have hg := hgrown 0 0 (by simp)
   simp only [Nat.zero_add, List.nil_append, Array.empty_append] at hg
   refine ⟨_, _, _, hr, hg, Zy.grow w _ _, .inr ⟨rfl, by simp, Zy.grow w _ _⟩⟩
  ·have hnl : nn <= us.length := by rw [<- h3]; exact Nat.le_mul_of_pos_right nn t4
   by_cases hroom : nn + m <= cap
   ·have hfit : o + nn * i.size + us2.length <= cur.size := by rw [hl, Nat.add_assoc, <- Nat.add_mul]; exact Nat.le_trans (Nat.add_le_add_left (Nat.mul_le_mul_right _ hroom) _) h6
    have hr := Zc4 (P := P) w T ty e e' i t1 t2 g o nn cap cur h2 b m c us2 hl hc h1 hroom hfit
    refine ⟨_, _, [g], hr, .inr ⟨g, o, nn + m, cap, _, e', rfl, setRow_heap w g cur _ e' _ h2, ?_, hroom, h5, ?_, ?_, rfl⟩, ⟨rfl, rfl, rfl, by simp, fun k _ hk => setRow_other w g k _ (by simpa using hk), Nat.le_refl _⟩, .inl rfl⟩
    ·rw [List.length_append, hl, Nat.add_mul, h3]
    ·simp only [List.size_toArray, List.length_append, List.length_take, List.length_drop, Array.length_toList]
     omega
    ·have hle : o <= (cur.toList.take (o + nn * i.size)).length := by rw [List.length_take, Array.length_toList]; omega
     have e1 : (cur.toList.take (o + nn * i.size)).drop o = us := by rw [List.drop_take, Nat.add_sub_cancel_left]; exact h7
     rw [List.append_assoc, List.drop_append_of_le_length hle, e1, <- List.append_assoc]
     have : (nn + m) * i.size = (us ++ us2).length := by rw [List.length_append, hl, Nat.add_mul, h3]
     rw [this]
     exact List.take_left
   ·have holds : ∀ (j : Nat) (u : Value), us[j]? = some u -> w.cell? ((⟨g, o, none⟩ : Addr).add j) = some u := by
     intro j u hu
     rw [Vn]
     exact Ji h2 h7 hu
    have hbm : (nn + m) * i.bytes <= 140737488355328 := Nat.le_trans (Nat.mul_le_mul_left (nn + m) t6) j2
    have hr := run_append_grow (P := P) w T ty e i z t1 t2 t7 ⟨g, o, none⟩ nn cap us h3.symm holds b m c us2 hl hc j2 j2 (growslice_fits j2 hbm)
    exact ⟨_, _, _, hr, hgrown cap nn h3, Zy.grow w _ _, .inr ⟨rfl, by simp, Zy.grow w _ _⟩⟩
theorem RD.longer {F : Nat -> Prop} {T ty : TypeId} {sz : Nat} [hT : Zu P T sz] (w : World) {cs ds : List D} {r1 : Rho} {v : Value} {M1 : List Nat} (h : RD F w (.sl true sz cs) r1 v M1) (hF : ∀ g, F g -> g < w.heap.size)
  (a0 : Option Addr) (m c : Nat) (us2 : List Value) (hl : us2.length = m * sz) (hcells : us2 ≠ [] -> ∃ b, a0 = some b /\ ∀ (j : Nat) (u : Value), us2[j]? = some u -> w.cell? (b.add j) = some u)
  {k : Nat} {r2 : Rho} {M2 : List Nat} (h2 : RDs F w ds k r2 us2 M2) (hb : cs.length + ds.length <= 1099511627776)
  (hnd : (M1 ++ M2).Nodup) (hlt : ∀ g ∈ M1 ++ M2, g < w.heap.size /\ ¬ F g) :
  ∃ v' w' r' L1 Mw, (Builtin.append_ #[T, T] ty #[v, .slice a0 m c]).run P w = .ok v' w' /\ (∀ g ∈ Mw, g ∈ M1) /\ Zy w Mw w' /\ RD F w' (.sl true sz (cs ++ ds)) r' v' L1 /\ L1.Nodup /\ ∀ g ∈ L1, g < w'.heap.size /\ (g ∈ M1 ++ M2 \/ w.heap.size <= g) := by
 simp only [RD] at h
 obtain ⟨rfl, us, L0, L2, rfl, h3, h4⟩ := h
 have hu1 := h4.length
 have hu2 := h2.length
 obtain ⟨v', w', L0', hr, hrow, hk, hL0⟩ := Zgh (P := P) (T := T) (ty := ty) w _ us L0 h3 a0 m c us2 hl hcells (Zfo h2) (by rw [hu1, hu2]; exact hb)
 have hsame : ∀ g, g < w.heap.size -> g ∉ L0 -> Vh w w' g := fun g hg hn => hk.block g hg hn
 have hnd' := hnd
 simp only [List.nodup_append, List.mem_append] at hnd
 have hsF : ∀ g, F g -> Vh w w' g := fun g hg => hsame g (hF g hg) (fun hm => (hlt g (by simp [hm])).2 hg)
 have hs2 : ∀ g, g ∈ L2 -> Vh w w' g := fun g hg => hsame g (hlt g u5).1 (fun hm => hnd.1.2.2 g hm g hg rfl)
 have hsM : ∀ g, g ∈ M2 -> Vh w w' g := fun g hg => hsame g (hlt g u5).1 (fun hm => hnd.2.2 g (.inl hm) g hg rfl)
 have e1 := RDs.same (F' := F) (fun _ h => h) hsF cs 0 r1 us L2 h4 hs2
 have e2 := RDs.same (F' := F) (fun _ h => h) hsF ds k r2 us2 M2 h2 hsM
 -- places of the new part
 have e2' : ∃ r3, RDs F w' ds (0 + cs.length) r3 us2 M2 := by
  have h5 := RDs.shift ds 0 k r2 us2 M2 (by rw [Nat.zero_add]; exact e2)
  exact ⟨_, RDs.unshift ds 0 cs.length _ us2 M2 h5⟩
 obtain ⟨r3, e3⟩ := e2'
 refine ⟨v', w', fun π => match π with | [] => v' | j :: q => if j < cs.length then r1 (j :: q) else r3 (j :: q), L0' ++ (L2 ++ M2), L0, hr, fun g hg => by simp [hg], hk, ?_, ?_, ?_⟩
 ·simp only [RD]
  refine ⟨trivial, us ++ us2, L0', L2 ++ M2, rfl, hrow, RDs.append cs ds 0 _ us us2 L2 M2 ?_ ?_⟩
  ·have : ∀ (cs' : List D) (k' : Nat) (us' : List Value) (L' : List Nat), k' + cs'.length <= cs.length -> RDs F w' cs' k' r1 us' L' -> RDs F w' cs' k' (fun π => match π with | [] => v' | j :: q => if j < cs.length then r1 (j :: q) else r3 (j :: q)) us' L' := by
    intro cs'
    induction cs' with
    | nil => intro k' us' L' _ h; simpa only [RDs] using h
    | cons d cs' ih =>
     intro k' us' L' hk' h
     simp only [RDs, List.length_cons] at h hk' ⊢
     obtain ⟨u, us'', A, B, rfl, rfl, f1, f2⟩ := h
     exact ⟨u, us'', A, B, rfl, rfl, RD.rho d _ _ u A f1 (fun π => by simp [Rho.at, show k' < cs.length from by omega]), ih (k' + 1) us'' B j2 f2⟩
   exact this cs 0 us L2 j2 e1
  ·refine RDs.rho ds _ r3 _ us2 M2 e3 (fun j hj => ?_)
   funext π
   simp [Rho.at, show ¬ j < cs.length from by omega]
 ·rcases hL0 with rfl | ⟨rfl, _⟩
  ·rw [<- List.append_assoc]; exact hnd'
  ·simp only [List.cons_append, List.nil_append, List.nodup_cons, List.mem_append]
   refine ⟨fun h => ?_, ?_⟩
   ·rcases h with h | h
    ·have := (hlt _ (show w.heap.size ∈ (L0 ++ L2) ++ M2 by simp [h])).1; omega
    ·have := (hlt _ (show w.heap.size ∈ (L0 ++ L2) ++ M2 by simp [h])).1; omega
   ·rw [List.nodup_append]
    exact ⟨hnd.1.2.1, hnd.2.1, fun g hg g' hg' e => hnd.2.2 g (.inr hg) g' hg' e⟩
 ·intro g hg
  rcases hL0 with rfl | ⟨rfl, hlt', _⟩
  ·have hg' : g ∈ (L0' ++ L2) ++ M2 := by simpa using hg
   exact ⟨Nat.lt_of_lt_of_le (hlt g hg').1 hk.size, .inl hg'⟩
  ·simp only [List.cons_append, List.nil_append, List.mem_cons] at hg
   rcases hg with rfl | hg
   ·exact ⟨hlt', .inr (Nat.le_refl _)⟩
   ·have hg' : g ∈ (L0 ++ L2) ++ M2 := by simp only [List.mem_append] at hg ⊢; rcases hg with h | h <;> simp [h]
    exact ⟨Nat.lt_of_lt_of_le (hlt g hg').1 hk.size, .inl hg'⟩
def D.plain : D -> Bool
 | .lit _ => true
 | _ => false
theorem RDs.plain {F F' : Nat -> Prop} {w : World} : ∀ {ds : List D} {k : Nat} {r : Rho} {us : List Value}, RDs F w (D.erases ds) k r us [] -> (∀ d ∈ ds, d.plain = true) -> RDs F' w ds k r us []
 | [], _, _, _, h, _ => by simpa only [RDs, D.erases] using h
 | d :: ds, k, r, us, h, hp => by
  simp only [RDs, D.erases] at h ⊢
  obtain ⟨u, us', L1, L2, rfl, e, h1, h2⟩ := h
  simp only [List.nil_eq, List.append_eq_nil_iff] at e
  obtain ⟨rfl, rfl⟩ := e
  refine ⟨u, us', [], [], rfl, rfl, ?_, RDs.plain h2 (fun d hd => hp d (by simp [hd]))⟩
  have := hp d (by simp)
  cases d <;> simp [D.plain] at this
  simpa only [RD, D.erase] using h1
theorem Vj {d : Nat} {s x : Operand} {T : TypeId} {sz : Nat} {cs ds : List D} {rd rd2 : List Nat} {up : List (Nat × AV)} {ty pos aft g} [hT : Zu P T sz] (h : Vw st s rd (.sl true sz cs) up) (hv : U3 (Zn st up) x rd2 sz ds) (hp : ∀ c ∈ ds, c.plain = true) (hb : cs.length + ds.length <= 1099511627776) (hd : n d = true) :
  Zg P n ⟨some d, .call ⟨.builtin .append, #[s, x], #[T, T]⟩, ty, pos, aft, g⟩ nid st (rd ++ rd2) (up ++ [(d, .own nid (.sl true sz (cs ++ ds)))]) := by
 intro X st' hs hX f a w hn hrep K Q hK
 obtain ⟨ρ, L, hr⟩ := hrep
 subst hn
 obtain ⟨r, L', M1, hm, hv1⟩ := hr.toM.give (h.agree fun s hs' => hs s q9)
 rw [Zx] at hK
 rw [List.nil_append] at hm
 have hv' : U3 (Zn st' up) x rd2 sz ds := hv.agree fun s hs' => Xa _ _ (hs s q9)
 obtain ⟨us, r2, ⟨a0, n0, c0, e0, h1, h2, h3, h4⟩, h5⟩ := hv'.read hm.rep
 obtain ⟨v', w', r', L1, Mw, hrun, hMw, hk, hRD, hnd, hL1⟩ := RD.longer (P := P) (T := T) (ty := ty) w hv1 (fun g hg => hm.rep.F_lt hg) a0 n0 c0 us h1.symm (fun hne => let ⟨b, e, _, hc⟩ := h4 hne; ⟨b, e, hc⟩) (RDs.plain (F' := f.F) h5 hp) hb (by simpa using hm.nd) (fun g hg => hm.bound g (by simpa using hg))
 refine wV_ (u := v') (w' := w') ?_ (hm.put_root hK hd hX _ _ Mw hMw hk r' L1 hRD hnd (fun g hg => by simpa using hL1 g hg))
 simp [execOp, resolve, invoke, builtin, e0, hrun]
theorem Kq {d t : Nat} {s : Operand} {T : TypeId} {sz : Nat} {cs ds : List D} {rd : List Nat} {up : List (Nat × AV)} {ty pos aft g} [hT : Zu P T sz] (h : Vw st s rd (.sl true sz cs) up) (hv : Zn st up t = .c (.sl false sz ds)) (hb : cs.length + ds.length <= 1099511627776) (hd : n d = true) :
  Zg P n ⟨some d, .call ⟨.builtin .append, #[s, .tmp t], #[T, T]⟩, ty, pos, aft, g⟩ nid st (rd ++ [t]) (up ++ [(d, .own nid (.sl true sz (cs ++ ds)))]) := by
 intro X st' hs hX f a w hn hrep K Q hK
 obtain ⟨ρ, L, hr⟩ := hrep
 subst hn
 obtain ⟨r, L', M1, hm, hv1⟩ := hr.toM.give (h.agree fun s hs' => hs s q9)
 rw [Zx] at hK
 rw [List.nil_append] at hm
 have ht := hm.rep.slots t
 rw [(Xa _ _ (hs t (by simp))).trans hv] at ht
 simp only [SR, RD] at ht
 obtain ⟨_, r2, _, us, ⟨a0, n0, c0, e0, h1, h2, h3, h4⟩, h5⟩ := ht
 obtain ⟨v', w', r', L1, Mw, hrun, hMw, hk, hRD, hnd, hL1⟩ := RD.longer (P := P) (T := T) (ty := ty) w hv1 (fun g hg => hm.rep.F_lt hg) a0 n0 c0 us h1.symm (fun hne => let ⟨b, e, _, hc⟩ := h4 hne; ⟨b, e, hc⟩) h5 hb (by simpa using hm.nd) (fun g hg => hm.bound g (by simpa using hg))
 have e1 : a.eval (.tmp t) = _ := e0
 refine wV_ (u := v') (w' := w') ?_ (hm.put_root hK hd hX _ _ Mw hMw hk r' L1 hRD hnd (fun g hg => by simpa using hL1 g hg))
 simp [execOp, resolve, invoke, builtin, e1, hrun]
theorem Xl {d : Nat} {s x : Operand} {T : TypeId} {sz : Nat} {cs ds : List D} {rd rd2 : List Nat} {up up2 : List (Nat × AV)} {ty pos aft g} [hT : Zu P T sz] (h : Vw st s rd (.sl true sz cs) up) (hv : Vw (Zn st up) x rd2 (.sl true sz ds) up2) (hb : cs.length + ds.length <= 1099511627776) (hd : n d = true) :
  Zg P n ⟨some d, .call ⟨.builtin .append, #[s, x], #[T, T]⟩, ty, pos, aft, g⟩ nid st (rd ++ rd2) ((up ++ up2) ++ [(d, .own nid (.sl true sz (cs ++ ds)))]) := by
 intro X st' hs hX f a w hn hrep K Q hK
 obtain ⟨ρ, L, hr⟩ := hrep
 subst hn
 obtain ⟨r, L', M1, hm, hv1⟩ := hr.toM.give (h.agree fun s hs' => hs s q9)
 rw [Zx, Zx] at hK
 rw [List.nil_append] at hm
 have hv' := hv.agree (st' := Zn st' up) fun s hs' => Xa _ _ (hs s q9)
 obtain ⟨r2, L2, M2, hm2, hv2⟩ := hm.give hv'
 simp only [RD] at hv2
 obtain ⟨_, us, L0, L3, rfl, h1, h5⟩ := hv2
 have hsh : ∃ a0 n0 c0, a.eval x = .slice a0 n0 c0 /\ us.length = n0 * sz /\ (us ≠ [] -> ∃ b, a0 = some b /\ ∀ (j : Nat) (u : Value), us[j]? = some u -> w.cell? (b.add j) = some u) := by
  obtain ⟨a0, n0, c0, e0, f1, f2, f3, f4⟩ := h1.shRow (fun g hg => (hm2.bound g u5).1)
  exact ⟨a0, n0, c0, e0, f1.symm, fun hne => let ⟨b, e, _, hc⟩ := f4 hne; ⟨b, e, hc⟩⟩
 obtain ⟨a0, n0, c0, e0, f1, f2⟩ := hsh
 have hnd2 := hm2.nd
 obtain ⟨v', w', r', L1, Mw, hrun, hMw, hk, hRD, hnd, hL1⟩ := RD.longer (P := P) (T := T) (ty := ty) w hv1 (fun g hg => hm.rep.F_lt hg) a0 n0 c0 us f1 f2 h5 hb
  (by simp only [List.nodup_append, List.mem_append] at hnd2 ⊢; grind) (fun g hg => hm2.bound g (by simp only [List.mem_append] at hg ⊢; grind))
 refine wV_ (u := v') (w' := w') ?_ (hm2.put_root hK hd hX _ _ Mw (fun g hg => by simp [hMw g hg]) hk r' L1 hRD hnd (fun g hg => ⟨(hL1 g hg).1, by have := (hL1 g hg).2; simp only [List.mem_append] at this ⊢; grind⟩))
 simp [execOp, resolve, invoke, builtin, e0, hrun]
end
end Go.Pv
namespace Go.Pv
open Go.RowKit
inductive V where
 | one (d : D)
 | agg (ds : List D)
def VR (F : Nat -> Prop) (w : World) : V -> Value -> List Nat -> Prop
 | .one d, v, L => ∃ r, RD F w d r v L
 | .agg ds, v, L => ∃ r us, v = .agg us.toArray /\ RDs F w ds 0 r us L
def VRs (F : Nat -> Prop) (w : World) : List V -> List Value -> List Nat -> Prop
 | [], us, L => us = [] /\ L = []
 | x :: xs, us, L => ∃ u us' L1 L2, us = u :: us' /\ L = L1 ++ L2 /\ VR F w x u L1 /\ VRs F w xs us' L2
inductive Arg where
 | sh (x : V)
 | mv (x : V)
 | io (d : D)
def Zo0 (F : Nat -> Prop) (w : World) : Arg -> Value -> List Nat -> Prop
 | .sh x, v, L => L = [] /\ VR F w x v []
 | .mv x, v, L => VR F w x v L
 | .io d, v, L => ∃ r, RD F w d r v L
def Xx (F : Nat -> Prop) (w : World) : List Arg -> List Value -> List Nat -> Prop
 | [], us, L => us = [] /\ L = []
 | x :: xs, us, L => ∃ u us' L1 L2, us = u :: us' /\ L = L1 ++ L2 /\ Zo0 F w x u L1 /\ Xx F w xs us' L2
def Xg (F : Nat -> Prop) (w : World) : List Arg -> List Value -> List D -> List Nat -> Prop
 | [], _, ds, L => ds = [] /\ L = []
 | .io _ :: xs, us, ds, L => ∃ u us' d ds' r L1 L2, us = u :: us' /\ ds = d :: ds' /\ L = L1 ++ L2 /\ RD F w d r u L1 /\ Xg F w xs us' ds' L2
 | _ :: xs, us, ds, L => ∃ u us', us = u :: us' /\ Xg F w xs us' ds L
def X9 : List Value -> Value
 | [v] => v
 | vs => .tuple vs.toArray
def Qx (w : World) (M : List Nat) (g : Nat) : Prop := g < w.heap.size /\ g ∉ M
def Res (own : Bool) (F : Nat -> Prop) (g : Nat) : Prop := own = false /\ F g
def Xf (own : Bool) (P : Program) (K : FuncId) (args : List Arg) (rs : List V) (outs : List D) : Prop :=
 ∀ (w : World) (vs : List Value) (M : List Nat) (F : Nat -> Prop), (∀ g, F g -> g < w.heap.size /\ g ∉ M) -> Xx F w args vs M -> M.Nodup -> (∀ g ∈ M, g < w.heap.size) ->
  Calls P K vs.toArray w fun e w' => ∃ us Lr Lo, e = .returned (X9 us) /\ Zy w M w' /\ VRs (Res own F) w' rs us Lr /\ Xg (Res own F) w' args vs outs Lo /\ (Lr ++ Lo).Nodup /\
   ∀ g ∈ Lr ++ Lo, g < w'.heap.size /\ (g ∈ M \/ w.heap.size <= g)
def Zj := Xf true
def Zjf := Xf false
class Zs (P : Program) (K : FuncId) : Prop where
 out : ∃ fn, P.funcs[K]? = some fn /\ fn.body.isSome = true /\ (fn.name == "runtime.NumGoroutine") = false
section
variable {P : Program} {n : NN} {nid : Nat} {st : Nat -> AV} {f : Fr} {X : Nat -> Prop} {a : Act} {w : World} {ρ : Nat -> Rho} {L : Nat -> List Nat} {M : List Nat}
theorem Kr {K : FuncId} [hK : Zs P K] {d : Option Nat} {xs : Array Operand} {ts : Array TypeId} {ty pos aft g} (ev : Operand -> Value) (hev : ev (.func K) = .func (.func K) #[] #[]) (w : World) :
  (execOp ev ⟨d, .call ⟨.value (.func K), xs, ts⟩, ty, pos, aft, g⟩).run P w = .ok (.enter K (xs.map ev)) w := by
 obtain ⟨fn, h1, h2, h3⟩ := hK.out
 have h4 : ¬ fn.body = none := by cases h : fn.body <;> simp [h] at h2 ⊢
 have h3 : ¬ fn.name = "runtime.NumGoroutine" := by simpa using h3
 simp [execOp, resolve, hev, Deferred.ofValue, invoke, callFunc, h1, h3, h4]
theorem V6 {o : Oper} {a : Act} {w w1 : World} {K : Act -> World -> Prop} {Q : Exit -> Act -> World -> Prop} {k : FuncId} {args : Array Value}
  (hr : (execOp a.eval o).run P w = .ok (.enter k args) w1) (hK : Calls P k args w1 fun e w' => ∃ v, e = .returned v /\ K (a.put o.dst v) w') : o.wp P a w K Q := by
 unfold Oper.wp
 rw [hr]
 refine hK.mono fun e w' ⟨v, he, h⟩ => ?_
 subst he
 exact h
inductive Uk (st : Nat -> AV) : AV -> List Nat -> D -> Prop
 | c {d} : Uk st (.c d) [] d
 | raw {d d'} : d.erase = d' -> Uk st (.raw d) [] d'
 | ptr {x id cs cs'} : st x = .own id (.pt true cs) -> D.erases cs = cs' -> Uk st (.ptr x id [] 0) [x] (.pt false cs')
 | sptr {cs} : Uk st (.sptr cs 0) [] (.pt false cs)
 | als {x id path d sz cs cs'} : st x = .own id d -> d.nav path = some (.sl true sz cs) -> D.erases cs = cs' -> Uk st (.als x id path) [x] (.sl false sz cs')
inductive Vr (st : Nat -> AV) : List AV -> List Nat -> List D -> Prop
 | nil : Vr st [] [] []
 | cons {x xs rd rds d ds} : Uk st x rd d -> Vr st xs rds ds -> Vr st (x :: xs) (rd ++ rds) (d :: ds)
theorem Uk.agree {st st' : Nat -> AV} {x : AV} {rd : List Nat} {d : D} (h : Uk st x rd d) (hs : ∀ s ∈ rd, st' s = st s) : Uk st' x rd d := by
 cases h with
 | c => exact .c
 | raw h => exact .raw h
 | ptr h1 h2 => exact .ptr ((hs _ (by simp)).trans h1) h2
 | sptr => exact .sptr
 | als h1 h2 h3 => exact .als ((hs _ (by simp)).trans h1) h2 h3
theorem Vr.agree {st st' : Nat -> AV} : ∀ {xs : List AV} {rd : List Nat} {ds : List D}, Vr st xs rd ds -> (∀ s ∈ rd, st' s = st s) -> Vr st' xs rd ds
 | _, _, _, .nil, _ => .nil
 | _, _, _, .cons h1 h2, hs => .cons (h1.agree fun s hs' => hs s q9) (Vr.agree h2 fun s hs' => hs s q9)
inductive Jz (st : Nat -> AV) : Operand -> List Nat -> V -> Prop
 | lit {x v} : Lit st x v -> v.oneCell' = true -> Jz st x (Z5 x) (.one (.lit v))
 | c {t d} : st t = .c d -> Jz st (.tmp t) [t] (.one d)
 | view {x rd sz cs cs'} : U3 st x rd sz cs -> D.erases cs = cs' -> Jz st x rd (.one (.sl false sz cs'))
 | ptr {t x id cs cs'} : st t = .ptr x id [] 0 -> st x = .own id (.pt true cs) -> D.erases cs = cs' -> Jz st (.tmp t) [t, x] (.one (.pt false cs'))
 | root {t id cs cs'} : st t = .own id (.pt true cs) -> D.erases cs = cs' -> Jz st (.tmp t) [t] (.one (.pt false cs'))
 | sptr {t cs} : st t = .sptr cs 0 -> Jz st (.tmp t) [t] (.one (.pt false cs))
 | clo {t k l rd ds} : st t = .clo k l -> Vr st l rd ds -> Jz st (.tmp t) (t :: rd) (.one (.fn k ds))
 | func {k} : Jz st (.func k) [] (.one (.fn k []))
theorem Jz.agree {st st' : Nat -> AV} {x : Operand} {rd : List Nat} {v : V} (h : Jz st x rd v) (hs : ∀ s ∈ rd, st' s = st s) : Jz st' x rd v := by
 cases h with
 | lit h h1 => exact .lit (h.agree hs) h1
 | c h => exact .c ((hs _ (by simp)).trans h)
 | view h h1 => exact .view (h.agree hs) h1
 | ptr h1 h2 h3 => exact .ptr ((hs _ (by simp)).trans h1) ((hs _ (by simp)).trans h2) h3
 | root h1 h2 => exact .root ((hs _ (by simp)).trans h1) h2
 | sptr h => exact .sptr ((hs _ (by simp)).trans h)
 | clo h1 h2 => exact .clo ((hs _ (by simp)).trans h1) (h2.agree fun s hs' => hs s q9)
 | func => exact .func
theorem Xk.free (h : Xk f X st a w ρ L M) {g : Nat} (hg : f.F g) : Qx w M g := ⟨h.rep.F_lt hg, fun hm => (h.bound g hm).2 hg⟩
theorem Xk.free_slot (h : Xk f X st a w ρ L M) {t g : Nat} (hg : g ∈ L t) : Qx w M g := ⟨(h.rep.bound t g hg).1, h.disj t g hg⟩
theorem Uk.rd (h : Xk f X st a w ρ L M) {x : AV} {rd : List Nat} {d : D} (hv : Uk st x rd d) {v : Value} {L0 : List Nat} (hx : SR f.F w ρ x v L0) (hL0 : ∀ g ∈ L0, Qx w M g) : ∃ r, RD (Qx w M) w d r v [] := by
 cases hv with
 | c =>
  simp only [SR] at hx
  obtain ⟨_, r, h1⟩ := hx
  exact ⟨r, RD.same (fun _ hg => h.free hg) (fun _ _ => rfl) _ r _ [] h1 (by simp)⟩
 | raw he =>
  subst he
  simp only [SR] at hx
  obtain ⟨r, h1⟩ := hx
  exact ⟨r, RD.erase (fun _ hg => h.free hg) _ r _ L0 h1 hL0⟩
 | @ptr x id cs cs' h1 h2 =>
  subst h2
  simp only [SR] at hx
  obtain ⟨_, b, hb, e1⟩ := hx
  have h3 := h.rep.slots x
  rw [h1] at h3
  simp only [SR] at h3
  have e : v = tmp a x := by
   simp only [RD] at h3
   obtain ⟨e2, g, us, L1, ty, e3, _⟩ := h3
   have e2 : tmp a x = ρ id [] := e2
   rw [<- e2, e3] at hb
   simp only [Js, Option.some.injEq] at hb
   rw [e1, e3, <- hb]
   rfl
  rw [e]
  have h4 := RD.erase (F' := Qx w M) (fun _ hg => h.free hg) _ _ _ _ h3 (fun g hg => h.free_slot hg)
  simp only [D.erase] at h4
  exact ⟨_, h4⟩
 | @sptr cs =>
  simp only [SR] at hx
  obtain ⟨_, b, us, r, e0, hb, hc, h5⟩ := hx
  refine ⟨r, ?_⟩
  simp only [RD]
  rw [Vi] at e0
  exact ⟨trivial, b, us, e0, h.free hb, hc, RDs.same (fun _ hg => h.free hg) (fun _ _ => rfl) cs 0 r us [] h5 (by simp)⟩
 | als h1 h2 h3 =>
  subst h3
  obtain ⟨v1, A, L1, B, eL, h4, _⟩ := h.rep.part h1 h2
  simp only [SR] at hx
  have e : v = v1 := by
   rw [hx.2]
   simp only [RD] at h4
   rw [h4.1, Rho.sub_nil]
  rw [e]
  have h5 := RD.erase (F' := Qx w M) (fun _ hg => h.free hg) _ _ _ _ h4 (fun g hg => h.free_slot (by rw [eL]; simp [hg]))
  simp only [D.erase] at h5
  exact ⟨_, h5⟩
theorem Vr.rds (h : Xk f X st a w ρ L M) : ∀ {xs : List AV} {rd : List Nat} {ds : List D} {vs : List Value} {L0 : List Nat} (k : Nat), Vr st xs rd ds -> SRs f.F w ρ xs vs L0 -> (∀ g ∈ L0, Qx w M g) -> ∃ r, RDs (Qx w M) w ds k r vs []
 | _, _, _, _, _, k, .nil, hx, _ => by simp only [SRs] at hx; exact ⟨fun _ => undef, by simp only [RDs]; exact ⟨hx.1, trivial⟩⟩
 | _, _, _, _, _, k, .cons (d := d) (ds := ds) h1 h2, hx, hL0 => by
  simp only [SRs] at hx
  obtain ⟨v, vs', L1, L2, rfl, rfl, h3, h4⟩ := hx
  obtain ⟨r1, e1⟩ := h1.rd h h3 (fun g hg => hL0 g u5)
  obtain ⟨r2, e2⟩ := Vr.rds h (k + 1) h2 h4 (fun g hg => hL0 g u5)
  refine ⟨fun π => match π with | [] => undef | j :: q => if j = k then r1 q else r2 (j :: q), ?_⟩
  simp only [RDs]
  refine ⟨v, vs', [], [], rfl, rfl, RD.rho d r1 _ v [] e1 (fun π => by simp [Rho.at]), RDs.rho ds (k + 1) r2 _ vs' [] e2 (fun j hj => ?_)⟩
  funext π
  simp [Rho.at, show j ≠ k from by omega]
theorem Jz.rd (h : Xk f X st a w ρ L M) {x : Operand} {rd : List Nat} {v : V} (hv : Jz st x rd v) : VR (Qx w M) w v (a.eval x) [] := by
 cases hv with
 | @lit x v hl h1 =>
  rw [Lit.eval h.rep hl]
  exact ⟨fun _ => undef, by simp only [RD]; exact ⟨trivial, h1, trivial⟩⟩
 | @c t d ht =>
  have := h.rep.slots t
  rw [ht] at this
  simp only [SR] at this
  obtain ⟨_, r, h1⟩ := this
  exact ⟨r, RD.same (fun _ hg => h.free hg) (fun _ _ => rfl) d r _ [] h1 (by simp)⟩
 | @view x rd sz cs cs' hv he =>
  subst he
  cases hv with
  | @sh t sz cs ht =>
   have := h.rep.slots t
   rw [ht] at this
   simp only [SR] at this
   obtain ⟨_, r, h1⟩ := this
   have h2 := RD.erase (F' := Qx w M) (fun _ hg => h.free hg) _ r _ [] h1 (by simp)
   simp only [D.erase] at h2
   exact ⟨r, h2⟩
  | @root t id sz cs ht =>
   have := h.rep.slots t
   rw [ht] at this
   simp only [SR] at this
   have h2 := RD.erase (F' := Qx w M) (fun _ hg => h.free hg) _ _ _ _ this (fun g hg => h.free_slot hg)
   simp only [D.erase] at h2
   exact ⟨_, h2⟩
  | @als t x id path d sz cs ht hx hn =>
   obtain ⟨v1, A, L1, B, eL, h1, _⟩ := h.rep.part hx hn
   have ht' := h.rep.slots t
   rw [ht] at ht'
   simp only [SR] at ht'
   have e : a.eval (.tmp t) = v1 := by
    have : a.eval (.tmp t) = ρ id path := ht'.2
    rw [this]
    simp only [RD] at h1
    rw [h1.1, Rho.sub_nil]
   rw [e]
   have h2 := RD.erase (F' := Qx w M) (fun _ hg => h.free hg) _ _ _ _ h1 (fun g hg => h.free_slot (t := x) (by rw [eL]; simp [hg]))
   simp only [D.erase] at h2
   exact ⟨_, h2⟩
  | @sub t x id path d sz lo n cs ht hx hn =>
   obtain ⟨us, L0, L1, h1, h2, h3⟩ := h.rep.partSl hx hn
   have := h.rep.slots t
   rw [ht] at this
   simp only [SR] at this
   obtain ⟨_, a0, n0, c0, a1, c1, e1, e2, e3, e4, e5, e6⟩ := this
   have hsh : Ui (Qx w M) w (ρ id path) sz us := by
    rcases h1 with ⟨e, rfl, rfl⟩ | ⟨g, o, n, cap, cur, e, h1, h4, h5, h6, h7, h8, h9, rfl⟩
    ·exact ⟨none, 0, 0, e, by simp, Nat.le_refl _, Nat.zero_le _, fun h => absurd rfl h⟩
    ·refine ⟨some ⟨g, o, none⟩, n, cap, h1, h5, h6, h7, fun _ => ⟨_, rfl, h.free_slot (h3 g (by simp)), fun j u hu => ?_⟩⟩
     rw [Vn]
     exact Ji h4 h9 hu
   have her := RDs.erase (F' := Qx w M) (fun _ hg => h.free hg) cs 0 _ us L1 h2 (fun g hg => h.free_slot (h3 g (.inr hg)))
   obtain ⟨r, hr⟩ := RDs.cut (lo * sz) (n * sz) _ _ _ _ her
   refine ⟨r, ?_⟩
   simp only [RD]
   refine ⟨trivial, _, ?_, by rw [D.erases_eq, List.map_take, List.map_drop, <- D.erases_eq]; exact hr⟩
   change Ui _ _ (tmp a t) _ _
   rw [e2]
   exact hsh.cut e1 e3 e4 e5 (fun hne => (e6 hne).2)
  | @nil sz =>
   exact ⟨fun _ => undef, by simp only [RD, D.erases]; exact ⟨trivial, [], ⟨none, 0, 0, rfl, by simp, Nat.le_refl _, Nat.zero_le _, fun h => absurd rfl h⟩, by simp [RDs]⟩⟩
 | @ptr t x id cs cs' ht hx he =>
  subst he
  have h1 := h.rep.slots t
  rw [ht] at h1
  simp only [SR] at h1
  obtain ⟨_, b, hb, h1⟩ := h1
  have h2 := h.rep.slots x
  rw [hx] at h2
  simp only [SR] at h2
  have e : a.eval (.tmp t) = tmp a x := by
   have e1 : a.eval (.tmp t) = _ := h1
   rw [e1]
   simp only [RD] at h2
   obtain ⟨e2, g, us, L1, ty, e3, _⟩ := h2
   rw [<- e2, e3] at hb
   simp only [Js, Option.some.injEq] at hb
   rw [e3, <- hb]
   rfl
  rw [e]
  have h3 := RD.erase (F' := Qx w M) (fun _ hg => h.free hg) _ _ _ _ h2 (fun g hg => h.free_slot hg)
  simp only [D.erase] at h3
  exact ⟨_, h3⟩
 | @root t id cs cs' ht he =>
  subst he
  have h2 := h.rep.slots t
  rw [ht] at h2
  simp only [SR] at h2
  have h3 := RD.erase (F' := Qx w M) (fun _ hg => h.free hg) _ _ _ _ h2 (fun g hg => h.free_slot hg)
  simp only [D.erase] at h3
  exact ⟨_, h3⟩
 | @sptr t cs ht =>
  have h1 := h.rep.slots t
  rw [ht] at h1
  simp only [SR] at h1
  obtain ⟨_, b, us, r, e0, hb, hc, h5⟩ := h1
  refine ⟨r, ?_⟩
  simp only [RD]
  have e1 : a.eval (.tmp t) = _ := e0
  rw [Vi] at e1
  exact ⟨trivial, b, us, e1, h.free hb, hc, RDs.same (fun _ hg => h.free hg) (fun _ _ => rfl) cs 0 r us [] h5 (by simp)⟩
 | @clo t k l rd ds ht hl =>
  have h1 := h.rep.slots t
  rw [ht] at h1
  simp only [SR] at h1
  obtain ⟨vs, e0, hv⟩ := h1
  obtain ⟨r, e1⟩ := hl.rds h 0 hv (fun g hg => h.free_slot hg)
  refine ⟨r, ?_⟩
  simp only [RD]
  exact ⟨trivial, vs, e0, e1⟩
 | @func k =>
  refine ⟨fun _ => undef, ?_⟩
  simp only [RD, RDs]
  exact ⟨trivial, [], rfl, rfl, trivial⟩
inductive Xr : (Nat -> AV) -> List Operand -> List Arg -> List Nat -> List (Nat × AV) -> Prop
 | nil {s0 : Nat -> AV} : Xr s0 [] [] [] []
 | sh {s0 : Nat -> AV} {x : Operand} {xs : List Operand} {v : V} {args : List Arg} {rd : List Nat} {up : List (Nat × AV)} : Xr s0 xs args rd up -> Xr s0 (x :: xs) (.sh v :: args) rd up
 | mv {s0 : Nat -> AV} {x : Operand} {xs : List Operand} {d : D} {args : List Arg} {rd rds : List Nat} {up ups : List (Nat × AV)} : Vw s0 x rd d up -> Xr (Zn s0 up) xs args rds ups -> Xr s0 (x :: xs) (.mv (.one d) :: args) (rd ++ rds) (up ++ ups)
 | mvAgg {s0 : Nat -> AV} {t : Nat} {l : List AV} {ds : List D} {xs : List Operand} {args : List Arg} {rds : List Nat} {ups : List (Nat × AV)} : s0 t = .agg l -> AV.dats l = some ds -> Xr (put s0 t .dead) xs args rds ups -> Xr s0 (.tmp t :: xs) (.mv (.agg ds) :: args) (t :: rds) ((t, .dead) :: ups)
inductive Va (st : Nat -> AV) : List Operand -> List Arg -> List Nat -> Prop
 | nil : Va st [] [] []
 | sh {x xs v args rd rds} : Jz st x rd v -> Va st xs args rds -> Va st (x :: xs) (.sh v :: args) (rd ++ rds)
 | shAgg {t l ds xs args rd rds} : st t = .agg l -> Vr st l rd ds -> Va st xs args rds -> Va st (.tmp t :: xs) (.sh (.agg ds) :: args) (t :: rd ++ rds)
 | mv {x xs v args rds} : Va st xs args rds -> Va st (x :: xs) (.mv v :: args) rds
theorem Xr.agree : ∀ {st st' : Nat -> AV} {xs : List Operand} {args : List Arg} {rd : List Nat} {up : List (Nat × AV)}, Xr st xs args rd up -> (∀ s ∈ rd, st' s = st s) -> Xr st' xs args rd up
 | _, _, _, _, _, _, .nil, _ => .nil
 | _, _, _, _, _, _, .sh h, hs => .sh (Xr.agree h hs)
 | _, _, _, _, _, _, .mv h1 h2, hs => .mv (h1.agree fun s hs' => hs s q9) (Xr.agree h2 fun s hs' => Xa _ _ (hs s q9))
 | _, _, _, _, _, _, .mvAgg h1 h2 h3, hs => .mvAgg ((hs _ (by simp)).trans h1) h2 (Xr.agree h3 fun s hs' => Xa [(_, _)] s (hs s q9))
theorem Va.agree {st st' : Nat -> AV} : ∀ {xs : List Operand} {args : List Arg} {rd : List Nat}, Va st xs args rd -> (∀ s ∈ rd, st' s = st s) -> Va st' xs args rd
 | _, _, _, .nil, _ => .nil
 | _, _, _, .sh h1 h2, hs => .sh (h1.agree fun s hs' => hs s q9) (Va.agree h2 fun s hs' => hs s q9)
 | _, _, _, .shAgg h1 h2 h3, hs => .shAgg ((hs _ (by simp)).trans h1) (h2.agree fun s hs' => hs s q9) (Va.agree h3 fun s hs' => hs s q9)
 | _, _, _, .mv h, hs => .mv (Va.agree h hs)
inductive Wq (F : Nat -> Prop) (w : World) (ev : Operand -> Value) : List Operand -> List Arg -> List Nat -> Prop
 | nil : Wq F w ev [] [] []
 | sh {x xs v args L} : Wq F w ev xs args L -> Wq F w ev (x :: xs) (.sh v :: args) L
 | mv {x xs v args L1 L} : VR F w v (ev x) L1 -> Wq F w ev xs args L -> Wq F w ev (x :: xs) (.mv v :: args) (L1 ++ L)
theorem Xk.moves : ∀ {st : Nat -> AV} {L : Nat -> List Nat} {M : List Nat}, Xk f X st a w ρ L M -> ∀ {xs : List Operand} {args : List Arg} {rd : List Nat} {up : List (Nat × AV)}, Xr st xs args rd up ->
  ∃ L' M1, Xk f X (Zn st up) a w ρ L' (M ++ M1) /\ Wq f.F w a.eval xs args M1
 | st, L, M, h, _, _, _, _, .nil => ⟨L, [], by simpa [Zn] using h, .nil⟩
 | st, L, M, h, _, _, _, _, .sh h1 => by
  obtain ⟨L', M1, hm, hr⟩ := Xk.moves h h1
  exact ⟨L', M1, hm, .sh hr⟩
 | st, L, M, h, _, _, _, _, .mv h1 h2 => by
  obtain ⟨r1, L1, M1, hm1, hr1⟩ := h.give h1
  obtain ⟨L2, M2, hm2, hr2⟩ := Xk.moves hm1 h2
  exact ⟨L2, M1 ++ M2, by rw [Zx, <- List.append_assoc]; exact hm2, .mv ⟨r1, hr1⟩ hr2⟩
 | st, L, M, h, _, _, _, _, .mvAgg (t := t) (l := l) (ds := ds) h1 h2 h3 => by
  have ht := h.rep.slots t
  rw [h1] at ht
  simp only [SR] at ht
  obtain ⟨vs, e0, hv⟩ := ht
  obtain ⟨r, hv⟩ := hv.dats l ds 0 vs (L t) h2
  have hm1 := h.detach t .dead [] (L t) w7 u3 (fun g hg => by simpa using hg) List.nodup_nil (h.rep.nodup t) (by simp)
  obtain ⟨L2, M2, hm2, hr2⟩ := Xk.moves hm1 h3
  exact ⟨L2, L t ++ M2, by rw [<- List.append_assoc]; exact hm2, .mv ⟨r, vs, e0, hv⟩ hr2⟩
theorem VR.same {F F' : Nat -> Prop} {w w' : World} (hF : ∀ g, F g -> F' g) (hs : ∀ g, F g -> Vh w w' g) {v : V} {u : Value} {L0 : List Nat} (h : VR F w v u L0) (hL : ∀ g ∈ L0, Vh w w' g) : VR F' w' v u L0 := by
 cases v with
 | one d => obtain ⟨r, h⟩ := h; exact ⟨r, RD.same hF hs d r u L0 h hL⟩
 | agg ds => obtain ⟨r, us, e, h⟩ := h; exact ⟨r, us, e, RDs.same hF hs ds 0 r us L0 h hL⟩
theorem Hx {rd : List Nat} (h : Xk f X st a w ρ L M) : ∀ {xs : List Operand} {args : List Arg} {M1 : List Nat}, Wq f.F w a.eval xs args M1 -> ∀ {rd : List Nat}, Va st xs args rd -> Xx (Qx w M) w args (xs.map a.eval) M1
 | _, _, _, .nil, _, .nil => by simp [Xx]
 | _, _, _, .sh h1, _, .sh h2 h3 => by
  simp only [Xx, List.map_cons]
  exact ⟨_, _, [], _, rfl, rfl, ⟨rfl, h2.rd h⟩, Hx (rd := rd) h h1 h3⟩
 | _, _, _, .sh h1, _, .shAgg (t := t) h2 h4 h3 => by
  simp only [Xx, List.map_cons]
  have ht := h.rep.slots t
  rw [h2] at ht
  simp only [SR] at ht
  obtain ⟨vs, e0, hv⟩ := ht
  obtain ⟨r, e1⟩ := h4.rds h 0 hv (fun g hg => h.free_slot hg)
  exact ⟨_, _, [], _, rfl, rfl, ⟨rfl, r, vs, e0, e1⟩, Hx (rd := rd) h h1 h3⟩
 | _, _, _, .mv h1 h2, _, .mv h3 => by
  simp only [Xx, List.map_cons]
  exact ⟨_, _, _, _, rfl, rfl, h1.same (fun _ hg => h.free hg) (fun _ _ => rfl) (fun _ _ => rfl), Hx (rd := rd) h h2 h3⟩
def V.av : V -> AV
 | .one (.lit v) => .c (.lit v)
 | .one d => .raw d
 | .agg ds => .agg (ds.map AV.raw)
def Y3 (nid : Nat) : List V -> AV
 | [] => .dead
 | [v] => match v with
  | .one (.lit v) => .c (.lit v)
  | .one d => .own nid d
  | .agg ds => .agg (ds.map AV.raw)
 | vs => .tup (vs.map V.av)
theorem Ks {F : Nat -> Prop} {w : World} {ρ : Nat -> Rho} : ∀ (ds : List D) (k : Nat) (r : Rho) (us : List Value) (L : List Nat), RDs F w ds k r us L -> SRs F w ρ (ds.map AV.raw) us L
 | [], _, _, _, _, h => by simpa only [RDs, SRs, List.map_nil] using h
 | d :: ds, k, r, us, L, h => by
  simp only [RDs] at h
  obtain ⟨u, us', L1, L2, rfl, rfl, h1, h2⟩ := h
  simp only [List.map_cons, SRs, SR]
  exact ⟨u, us', L1, L2, rfl, rfl, ⟨_, h1⟩, Ks ds (k + 1) r us' L2 h2⟩
theorem Ztp {F : Nat -> Prop} {w : World} {ρ : Nat -> Rho} {v : V} {u : Value} {L : List Nat} (h : VR F w v u L) : SR F w ρ v.av u L := by
 cases v with
 | one d =>
  cases d with
  | lit u' =>
   obtain ⟨r, h⟩ := h
   simp only [V.av, SR]
   have h' := h
   simp only [RD] at h'
   obtain ⟨_, _, rfl⟩ := h'
   exact ⟨rfl, r, h⟩
  | _ => simp only [V.av, SR]; exact h
 | agg ds => obtain ⟨r, us, e, h⟩ := h; simp only [V.av, SR]; exact ⟨us, e, Ks ds 0 r us L h⟩
theorem Zkv {F : Nat -> Prop} {w : World} {ρ : Nat -> Rho} : ∀ (vs : List V) (us : List Value) (L : List Nat), VRs F w vs us L -> SRs F w ρ (vs.map V.av) us L
 | [], _, _, h => by simpa only [VRs, SRs, List.map_nil] using h
 | v :: vs, us, L, h => by
  simp only [VRs] at h
  obtain ⟨u, us', L1, L2, rfl, rfl, h1, h2⟩ := h
  simp only [List.map_cons, SRs]
  exact ⟨u, us', L1, L2, rfl, rfl, Ztp h1, Zkv vs us' L2 h2⟩
theorem J8 (ds : List D) : AV.idss (ds.map AV.raw) = [] := by
 induction ds with
 | nil => rfl
 | cons d ds ih => simp [AV.idss, AV.ids, ih]
theorem Zmj (vs : List V) : AV.idss (vs.map V.av) = [] := by
 induction vs with
 | nil => rfl
 | cons v vs ih =>
  cases v with
  | one d => cases d <;> simp [AV.idss, AV.ids, V.av, ih]
  | agg ds => simp [AV.idss, AV.ids, V.av, J8, ih]
theorem VRs.length {F : Nat -> Prop} {w : World} : ∀ {vs : List V} {us : List Value} {L : List Nat}, VRs F w vs us L -> us.length = vs.length
 | [], _, _, h => by simp only [VRs] at h; simp [h.1]
 | v :: vs, us, L, h => by
  simp only [VRs] at h
  obtain ⟨u, us', L1, L2, rfl, _, _, h2⟩ := h
  simp [VRs.length h2]
theorem Xk.put_res {K : Act -> World -> Prop} (h : Xk f X st a w ρ L M) {d : Nat} {rs : List V} (hK : ∀ a' w', Rep f (fun i => X i \/ i = nid) (put st d (Y3 nid rs)) a' w' -> K a' w') (hd : f.N d = true) (hid : ¬ X nid) (us : List Value) (w' : World) (hk : Zy w M w') (Lr : List Nat)
  (hv : VRs f.F w' rs us Lr) (hn : Lr.Nodup) (hL : ∀ g ∈ Lr, g < w'.heap.size /\ (g ∈ M \/ w.heap.size <= g)) : K (a.put (some d) (X9 us)) w' := by
 have gen : ∀ av, (SR f.F w' ρ av (X9 us) Lr) -> av.ids = [] -> (∀ a' w', Rep f (fun i => X i \/ i = nid) (put st d av) a' w' -> K a' w') -> K (a.put (some d) (X9 us)) w' := by
  intro av h1 h2 h3
  exact h.put_raw h3 hd _ w' M (fun _ h => h) hk Lr h1 hn hL (by simp [h2])
 have hl := hv.length
 match rs, hK, hv, hl with
 | [], hK, hv, hl =>
  simp only [VRs] at hv
  obtain ⟨rfl, rfl⟩ := hv
  exact gen .dead w7 rfl hK
 | [.one (.lit u)], hK, hv, hl =>
  simp only [VRs] at hv
  obtain ⟨u', us', L1, L2, rfl, rfl, ⟨r, h1⟩, rfl, rfl⟩ := hv
  simp only [RD] at h1
  obtain ⟨rfl, h2, rfl⟩ := h1
  exact gen (.c (.lit u')) (by simp only [SR, RD, X9]; exact ⟨rfl, fun _ => undef, trivial, h2, trivial⟩) rfl hK
 | [.one (.sl o sz cs)], hK, hv, hl =>
  simp only [VRs] at hv
  obtain ⟨u', us', L1, L2, rfl, rfl, ⟨r, h1⟩, rfl, rfl⟩ := hv
  exact h.put_root hK hd hid _ w' M (fun _ h => h) hk r _ (by simpa [X9] using h1) hn hL
 | [.one (.pt o cs)], hK, hv, hl =>
  simp only [VRs] at hv
  obtain ⟨u', us', L1, L2, rfl, rfl, ⟨r, h1⟩, rfl, rfl⟩ := hv
  exact h.put_root hK hd hid _ w' M (fun _ h => h) hk r _ (by simpa [X9] using h1) hn hL
 | [.one .hole], hK, hv, hl =>
  simp only [VRs] at hv
  obtain ⟨u', us', L1, L2, rfl, rfl, ⟨r, h1⟩, rfl, rfl⟩ := hv
  exact h.put_root hK hd hid _ w' M (fun _ h => h) hk r _ (by simpa [X9] using h1) hn hL
 | [.one (.fn g cs)], hK, hv, hl =>
  simp only [VRs] at hv
  obtain ⟨u', us', L1, L2, rfl, rfl, ⟨r, h1⟩, rfl, rfl⟩ := hv
  exact h.put_root hK hd hid _ w' M (fun _ h => h) hk r _ (by simpa [X9] using h1) hn hL
 | [.agg ds], hK, hv, hl =>
  simp only [VRs] at hv
  obtain ⟨u', us', L1, L2, rfl, rfl, h1, rfl, rfl⟩ := hv
  refine gen (.agg (ds.map AV.raw)) ?_ (by simp only [AV.ids, J8]) hK
  have := Ztp (ρ := ρ) h1
  simpa [V.av, X9] using this
 | v1 :: v2 :: vs, hK, hv, hl =>
  have e : Y3 nid (v1 :: v2 :: vs) = .tup ((v1 :: v2 :: vs).map V.av) := rfl
  rw [e] at hK
  refine gen _ ?_ (by simp only [AV.ids, Zmj]) hK
  simp only [SR]
  refine ⟨us, ?_, Zkv _ us Lr hv⟩
  match us, hl with
  | [u], hl => simp at hl
  | [], hl => simp at hl
  | u1 :: u2 :: us', _ => rfl
theorem VRs.same {F F' : Nat -> Prop} {w w' : World} (hF : ∀ g, F g -> F' g) (hs : ∀ g, F g -> Vh w w' g) : ∀ {vs : List V} {us : List Value} {L0 : List Nat}, VRs F w vs us L0 -> (∀ g ∈ L0, Vh w w' g) -> VRs F' w' vs us L0
 | [], _, _, h, _ => by simpa only [VRs] using h
 | v :: vs, us, L0, h, hL => by
  simp only [VRs] at h ⊢
  obtain ⟨u, us', L1, L2, rfl, rfl, h1, h2⟩ := h
  exact ⟨u, us', L1, L2, rfl, rfl, h1.same hF hs (fun g hg => hL g u5), VRs.same hF hs h2 (fun g hg => hL g u5)⟩
theorem Zmk {F FF : Nat -> Prop} {ev : Operand -> Value} {w w' : World} {args : List Arg} {xs : List Operand} {M1 : List Nat} (hm : Wq F w ev xs args M1) : ∀ vs Lo, Xg FF w' args vs [] Lo -> Lo = [] := by
 induction hm with
 | nil => intro vs Lo ho; simp only [Xg] at ho; exact ho.2
 | sh _ ih => intro vs Lo ho; simp only [Xg] at ho; obtain ⟨u, us', _, ho⟩ := ho; exact ih _ _ ho
 | mv _ _ ih => intro vs Lo ho; simp only [Xg] at ho; obtain ⟨u, us', _, ho⟩ := ho; exact ih _ _ ho
theorem sC_ {d : Nat} {K : FuncId} {xs : Array Operand} {ts : Array TypeId} {args : List Arg} {rs : List V} {rd rd2 : List Nat} {up : List (Nat × AV)} {ty pos aft g} [Zs P K] (hc : Zj P K args rs []) (hm : Xr st xs.toList args rd up) (hr : Va (Zn st up) xs.toList args rd2) (hd : n d = true) :
  Zg P n ⟨some d, .call ⟨.value (.func K), xs, ts⟩, ty, pos, aft, g⟩ nid st (rd ++ rd2) (up ++ [(d, Y3 nid rs)]) := by
 intro X st' hs hX f a w hn hrep Kk Q hK
 obtain ⟨ρ, L, h⟩ := hrep
 subst hn
 have hm' := hm.agree (st' := st') fun s hs' => hs s (List.mem_append_left _ hs')
 obtain ⟨L', M1, h1, h2⟩ := h.toM.moves hm'
 rw [Zx] at hK
 rw [List.nil_append] at h1
 have h3 := Hx (rd := []) h1 h2 (hr.agree (st' := Zn st' up) fun s hs' => Xa _ _ (hs s (List.mem_append_right _ hs')))
 refine V6 (Kr a.eval rfl w) ?_
 have e : xs.map a.eval = (xs.toList.map a.eval).toArray := by apply Array.ext'; rw [Array.toList_map]
 rw [e]
 refine (hc w _ M1 (Qx w M1) (fun _ h => h) h3 h1.nd (fun g hg => (h1.bound g hg).1)).mono ?_
 rintro e w' ⟨us, Lr, Lo, rfl, hk, hv, ho, hnd, hL⟩
 have hLo : Lo = [] := Zmk h2 _ _ ho
 subst hLo
 rw [List.append_nil] at hnd hL
 exact ⟨_, rfl, h1.put_res hK hd hX us w' hk Lr (hv.same (fun g hg => by cases hg.1) (fun g hg => by cases hg.1) (fun _ _ => rfl)) hnd hL⟩
end
end Go.Pv
