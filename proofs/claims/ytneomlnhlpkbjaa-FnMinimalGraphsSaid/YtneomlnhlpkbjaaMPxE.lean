/- Contracting vertices, minimal graphs: the reference. No condition. -/
import Derived.Test.YtneomlnhlpkbjaaMPvX
import Derived.Test.YtneomlnhlpkbjaaMPwE
import Derived.Test.YtneomlnhlpkbjaaMGqD
import Derived.Test.YtneomlnhlpkbjaaMGdA
import Derived.Test.YtneomlnhlpkbjaaMGrF
set_option linter.unusedVariables false
set_option linter.unusedSimpArgs false
namespace Go.Pv
open Go.RowKit
section
variable {P : Program} {n : NN} {nid : Nat} {st : Nat → AV}
theorem nav_cs {cs : List D} {j : Nat} {d : D} (h : cs[j]? = some d) : (D.sl true 1 cs).nav [j] = some d := by
  simp only [D.nav, D.kids, h]
theorem nav_csP {ds : List D} {k j : Nat} {cs : List D} {d : D} (h0 : ds[k]? = some (.sl true 1 cs)) (h : cs[j]? = some d) : (D.pt true ds).nav [k, j] = some d := by
  simp only [D.nav, D.kids, h0, h]
theorem put_cs {cs : List D} {j : Nat} {d c : D} (h : cs[j]? = some c) : (D.sl true 1 cs).put [j] d = .sl true 1 (cs.set j d) := by
  simp only [D.put, D.kids, h, D.withKids]
theorem put_csP {ds : List D} {k j : Nat} {cs : List D} {d c : D} (h0 : ds[k]? = some (.sl true 1 cs)) (h : cs[j]? = some c) : (D.pt true ds).put [k, j] d = .pt true (ds.set k (.sl true 1 (cs.set j d))) := by
  simp only [D.put, D.kids, h0, h, D.withKids]
theorem step_store_cs {t x id off j : Nat} {xv : Operand} {v : Int} {T : TypeId} {cs : List D} {l : List Int} {ty pos aft g} [OneTy P T] (h : st t = .ptr x id [j] off) (hx : st x = .own id (.sl true 1 cs)) (hc : cs[j]? = some (.sl true 1 (ints l)))
    (hv : Lit st xv (.int .i64 v)) (hlt : off < l.length) :
    Step P n ⟨none, .store T (.tmp t) xv, ty, pos, aft, g⟩ nid st (t :: x :: rdOf xv) [(x, .own id (.sl true 1 (cs.set j (.sl true 1 (ints (l.set off v))))))] := by
  have := step_store_ints (P := P) (n := n) (nid := nid) (T := T) (ty := ty) (pos := pos) (aft := aft) (g := g) (path := [j]) h hx (nav_cs hc) rfl hv hlt
  rw [put_cs hc] at this
  exact this
theorem give_cs {t x id j : Nat} {cs ds : List D} (h : st t = .als x id [j]) (hx : st x = .own id (.sl true 1 cs)) (hc : cs[j]? = some (.sl true 1 ds)) : Give st (.tmp t) [t, x] (.sl true 1 ds) [(x, .own id (.sl true 1 (cs.set j .hole)))] := by
  have := Give.part (st := st) h hx (nav_cs hc)
  rwa [put_cs hc] at this
theorem give_csP {t x id k j : Nat} {es cs ds : List D} (h : st t = .als x id [k, j]) (hx : st x = .own id (.pt true es)) (h0 : es[k]? = some (.sl true 1 cs)) (hc : cs[j]? = some (.sl true 1 ds)) : Give st (.tmp t) [t, x] (.sl true 1 ds) [(x, .own id (.pt true (es.set k (.sl true 1 (cs.set j .hole)))))] := by
  have := Give.part (st := st) h hx (nav_csP h0 hc)
  rwa [put_csP h0 hc] at this
end
open Go.Sort in
theorem del_mv {P : Program} {K : FuncId} {l s : List Int} {i j : Int} (h0 : 0 < l.length) (hlen : s.length ≤ l.length)
    (hc : ∀ (blk off cap : Nat) (w : World), Holds (Value.int .i64) w blk off l.toArray → l.length ≤ cap → cap ≤ 9223372036854775807 → Calls P K #[.slice (some ⟨blk, off, none⟩) l.length cap, .int .i64 i, .int .i64 j] w fun e w' => e = .returned (.slice (some ⟨blk, off, none⟩) s.length cap) ∧ ∃ q, w' = putRow (Value.int .i64) (Go.Sort.ahead w q) blk off (s ++ List.replicate (l.length - s.length) 0).toArray) :
    CallA P K [.mv (.one (.sl true 1 (ints l))), .sh (.one (.lit (.int .i64 i))), .sh (.one (.lit (.int .i64 j)))] [.one (.sl true 1 (ints s))] [] := by
  intro w vs M F hF hargs hnd hM
  simp only [ArgsR, ArgR, VR, RD] at hargs
  obtain ⟨u, us', L1, L2, rfl, rfl, ⟨r, hu, us, L0, L1, rfl, hrow, hus⟩, u2, us2, L3, L4, rfl, rfl, ⟨rfl, r2, rfl, _, _⟩, u3, us3, L5, L6, rfl, rfl, ⟨rfl, r3, rfl, _, _⟩, rfl, rfl⟩ := hargs
  have h1 : ∀ x : Int, (Value.int .i64 x).oneCell' = true := fun _ => rfl
  obtain ⟨rfl, rfl⟩ := (rds_lits (enc := Value.int .i64) h1 l _ _ _ _).1 hus
  rcases hrow with ⟨rfl, e1, rfl⟩ | ⟨g, o, m, cap, cur, e, rfl, k2, k3, k4, k5, k6, k7, rfl⟩
  · have hl0 : l = [] := by simpa using e1
    subst hl0; simp at h0
  · rw [List.length_map] at k3
    have hm : m = l.length := by omega
    subst hm
    have hg : g < w.heap.size := hM g (by simp)
    have hH : Holds (Value.int .i64) w g o l.toArray := by
      intro j hj
      simp only [List.size_toArray] at hj
      constructor
      · exact cell_off k2 k7 (by simp [hj])
      · simp [World.frozen?, k2]
    refine (hc g o cap w hH k4 (by unfold maxLen at k5; omega)).mono ?_
    rintro e' w' ⟨rfl, q, rfl⟩
    generalize hz : s ++ List.replicate (l.length - s.length) (0 : Int) = z
    have hzl : z.length = l.length := by rw [← hz, List.length_append, List.length_replicate]; omega
    have hzs : z.take s.length = s := by rw [← hz]; simp
    have hb : (putRow (Value.int .i64) (Go.Sort.ahead w q) g o z.toArray).heap[g]? = some (.cells (putCells (Value.int .i64) o z.toArray cur) e (0, 0)) := by
      simp [putRow, mapBlock, Go.Sort.ahead, Array.getElem?_modify, k2, onCells]
    refine ⟨[.slice (some ⟨g, o, none⟩) s.length cap], [g], [], rfl, ⟨rfl, rfl, rfl, ?_, fun b hb hbM => ?_, by simp [putRow, mapBlock, Go.Sort.ahead]⟩, ?_, by simp [OutsR]; exact ⟨_, _, ⟨rfl, rfl⟩, _, _, rfl, _, _, rfl⟩, by simp, ?_⟩
    · simp [putRow, mapBlock, Go.Sort.ahead]
    · unfold Same
      have : g ≠ b := by rintro rfl; exact hbM (by simp)
      simp [putRow, mapBlock, Go.Sort.ahead, Array.getElem?_modify, this]
    · simp only [VRs, VR]
      refine ⟨_, [], [g], [], rfl, rfl, ⟨fun _ => .slice (some ⟨g, o, none⟩) s.length cap, ?_⟩, rfl, rfl⟩
      simp only [RD]
      refine ⟨trivial, s.map (Value.int .i64), [g], [], rfl, .inr ⟨g, o, s.length, cap, _, e, rfl, hb, by simp, by omega, k5, by simp [putCells]; omega, ?_, rfl⟩, (rds_lits (enc := Value.int .i64) h1 s _ _ _ _).2 ⟨rfl, rfl⟩⟩
      have hsz : o + cap ≤ cur.size := by omega
      apply List.ext_getElem?
      intro j
      rw [List.getElem?_take]
      by_cases hj : j < s.length
      · rw [if_pos (by omega), List.getElem?_drop]
        simp only [putCells, Array.getElem?_toList, Array.getElem?_mapIdx, List.getElem?_map]
        rw [Array.getElem?_eq_getElem (by omega), List.getElem?_eq_getElem (by omega)]
        have hzj : z[j]'(by omega) = s[j] := by
          have h2 : (z.take s.length)[j]'(by rw [List.length_take]; omega) = z[j]'(by omega) := List.getElem_take
          rw [← h2]
          simp only [hzs]
        simp [hzl, show j < l.length by omega, hzj]
      · rw [if_neg (by omega), List.getElem?_eq_none (by simp; omega)]
    · intro b hb
      simp only [List.append_nil, List.mem_singleton] at hb
      subst hb
      refine ⟨?_, .inl (by simp)⟩
      simp [putRow, mapBlock, Go.Sort.ahead]
      omega
end Go.Pv
namespace Go.Proofs.Ytneomlnhlpkbjaa
set_option maxHeartbeats 20000000
open Go.Pv
open Go.ChangeShapes Go.WideShapes Go.ChangeAt Go.RowKit
attribute [local irreducible] RunU WpA Step CallG CallNG Done DoneN
instance fnOk20 : FnOk Try.prog 20 := ⟨_, Try.func20, rfl, by decide⟩
instance fnOk21 : FnOk Try.prog 21 := ⟨_, Try.func21, rfl, by decide⟩
theorem gr_row {n : Nat} {E : List (List Int)} (hg : GoodE n E) : ∀ j, j < E.length → (E.getD j []).length = 2 := fun j hj => (hg j hj).1
theorem canS_c (w : List Int) (E : List (List Int)) (v : Nat) (hg : IsGr w E) (hv : v < w.length) : CallA Try.prog 20 [aGr w E, aI v] [rB (decide (CanC w E v))] [] := by
  have hlen := hg.1
  have hfew := hg.few
  have hN := near_c w E v (by omega) (gr_row hg.2.2.1)
  have hnl := near_le hg.2.2.1 (v : Int)
  have hdef : CanC w E v ↔ 1 < w.length ∧ w.getD (v * 1) 0 = -1 ∧ (near E v).length ≤ 2 := by unfold CanC; rw [Int.toNat_natCast, Nat.mul_one]
  rw [show decide (CanC w E v) = decide (1 < w.length ∧ w.getD (v * 1) 0 = -1 ∧ (near E v).length ≤ 2) from decide_eq_decide.2 hdef]
  clear hdef hg
  generalize near E v = nr at *
  by_cases h1 : w.getD (v * 1) 0 = -1
  · by_cases h2 : nr.length ≤ 2
    · by_cases h3 : 1 < w.length
      · rw [decide_eq_true ⟨h3, h1, h2⟩]
        refine callA_of _ Try.func20 rfl Try.ntmps20 solid_any ?_
        repeat' (first | refine Two.mk (fun _ => ?_) (fun _ => ?_) | (guard_target =~ CallN_; first | refine RunU.cons (step_call (hN) (.sh (.sh .nil)) (.shAgg rfl aggs_any (.sh shows_any .nil)) rfl) ?_) | refine goA ?_ | (guard_target =~ IsG; first | refine psA ?_ | (guard_target =~ CallS_; first | refine RunU.doit rfl rfl (step_call (hN) (.sh (.sh .nil)) (.shAgg rfl aggs_any (.sh shows_any .nil)) rfl) ?_) | refine gdA ?_) | (refine neA ?_; first | refine nxA ?_ | refine Done.ret (.one res_any .nil) (.sh (.sh .nil)) ?_ rfl) | fail)
        all_goals first | (exfalso; omega) | (simp; done) | (simp; omega)
      · rw [decide_eq_false (fun q => h3 q.1)]
        refine callA_of _ Try.func20 rfl Try.ntmps20 solid_any ?_
        repeat' (first | refine Two.mk (fun _ => ?_) (fun _ => ?_) | (guard_target =~ CallN_; first | refine RunU.cons (step_call (hN) (.sh (.sh .nil)) (.shAgg rfl aggs_any (.sh shows_any .nil)) rfl) ?_) | refine goA ?_ | (guard_target =~ IsG; first | refine psA ?_ | (guard_target =~ CallS_; first | refine RunU.doit rfl rfl (step_call (hN) (.sh (.sh .nil)) (.shAgg rfl aggs_any (.sh shows_any .nil)) rfl) ?_) | refine gdA ?_) | (refine neA ?_; first | refine nxA ?_ | refine Done.ret (.one res_any .nil) (.sh (.sh .nil)) ?_ rfl) | fail)
        all_goals first | (exfalso; omega) | (simp; done) | (simp; omega)
    · rw [decide_eq_false (fun q => h2 q.2.2)]
      refine callA_of _ Try.func20 rfl Try.ntmps20 solid_any ?_
      repeat' (first | refine Two.mk (fun _ => ?_) (fun _ => ?_) | (guard_target =~ CallN_; first | refine RunU.cons (step_call (hN) (.sh (.sh .nil)) (.shAgg rfl aggs_any (.sh shows_any .nil)) rfl) ?_) | refine goA ?_ | (guard_target =~ IsG; first | refine psA ?_ | (guard_target =~ CallS_; first | refine RunU.doit rfl rfl (step_call (hN) (.sh (.sh .nil)) (.shAgg rfl aggs_any (.sh shows_any .nil)) rfl) ?_) | refine gdA ?_) | (refine neA ?_; first | refine nxA ?_ | refine Done.ret (.one res_any .nil) (.sh (.sh .nil)) ?_ rfl) | fail)
      all_goals first | (exfalso; omega) | (simp; done) | (simp; omega)
  · rw [decide_eq_false (fun q => h1 q.2.1)]
    refine callA_of _ Try.func20 rfl Try.ntmps20 solid_any ?_
    repeat' (first | refine Two.mk (fun _ => ?_) (fun _ => ?_) | (guard_target =~ CallN_; first | refine RunU.cons (step_call (hN) (.sh (.sh .nil)) (.shAgg rfl aggs_any (.sh shows_any .nil)) rfl) ?_) | refine goA ?_ | (guard_target =~ IsG; first | refine psA ?_ | (guard_target =~ CallS_; first | refine RunU.doit rfl rfl (step_call (hN) (.sh (.sh .nil)) (.shAgg rfl aggs_any (.sh shows_any .nil)) rfl) ?_) | refine gdA ?_) | (refine neA ?_; first | refine nxA ?_ | refine Done.ret (.one res_any .nil) (.sh (.sh .nil)) ?_ rfl) | fail)
    all_goals first | (exfalso; omega) | (simp; done) | (simp; omega)
theorem incW_val {w nr : List Int} (hin : ∀ x ∈ nr, 0 ≤ x ∧ x < w.length) (hnd : nr.Nodup) {j : Nat} (hj : j < nr.length) : (incW w nr j).getD ((nr.getD (j * 1) 0).toNat * 1) 0 = w.getD ((nr.getD (j * 1) 0).toNat * 1) 0 := by
  simp only [Nat.mul_one]
  have hx := hin _ (getD_mem hj)
  rw [incW_at hin hnd j (by omega), if_neg, Int.add_zero]
  intro q
  obtain ⟨m, hm, he⟩ := List.getElem_of_mem q
  rw [List.length_take] at hm
  rw [List.getElem_take] at he
  have e2 : nr.getD j 0 = nr[j] := by simp [List.getD, hj]
  rw [e2] at he hx
  exact (List.pairwise_iff_getElem.1 (List.nodup_iff_pairwise_ne.1 hnd) m j (by omega) hj (by omega)) (by omega)
theorem incW_step (w nr : List Int) (j : Nat) : (incW w nr j).set ((nr.getD (j * 1) 0).toNat * 1) ((incW w nr j).getD ((nr.getD (j * 1) 0).toNat * 1) 0 + 1) = incW w nr (j + 1) := by
  simp only [Nat.mul_one]; rfl
def dcT (v : Int) (r : List Int) : Nat → List Int
  | 0 => r
  | k + 1 => if (dcT v r k).getD k 0 > v then (dcT v r k).set k ((dcT v r k).getD k 0 - 1) else dcT v r k
theorem dcT_len (v : Int) (r : List Int) : ∀ k, (dcT v r k).length = r.length
  | 0 => rfl
  | k + 1 => by
    rw [dcT]
    split
    · rw [List.length_set, dcT_len v r k]
    · exact dcT_len v r k
theorem dcT_two (v a b : Int) : dcT v [a, b] 2 = dcE v [a, b] := by
  simp only [dcT, dcE, dcI, e0, e1]
  by_cases h1 : a > v
  · by_cases h2 : b > v
    · simp [h1, h2]
    · simp [h1, h2]
  · by_cases h2 : b > v
    · simp [h1, h2]
    · simp [h1, h2]
theorem dcT_at (v : Int) (r : List Int) : ∀ k i, k ≤ i → (dcT v r k).getD i 0 = r.getD i 0
  | 0, i, _ => rfl
  | k + 1, i, h => by
    have ih := dcT_at v r k i (by omega)
    rw [dcT]
    split
    · rw [List.getD_eq_getElem?_getD, List.getElem?_set_ne (by omega), ← List.getD_eq_getElem?_getD, ih]
    · exact ih
def fX (v : Int) (R : List (List Int)) : Nat → List (List Int)
  | 0 => []
  | j + 1 => fX v R j ++ if noV v (R.getD j []) = true then [dcE v (R.getD j [])] else []
theorem fX_len (v : Int) (R : List (List Int)) : ∀ j, (fX v R j).length ≤ j
  | 0 => Nat.le_refl _
  | j + 1 => by
    have := fX_len v R j
    rw [fX, List.length_append]
    split <;> simp <;> omega
theorem fX_eq (v : Int) (R : List (List Int)) : ∀ j, j ≤ R.length → fX v R j = ((R.take j).filter (noV v)).map (dcE v)
  | 0, _ => by simp [fX]
  | j + 1, hj => by
    have e : R.getD j [] = R[j] := by simp [List.getD, show j < R.length by omega]
    rw [fX, fX_eq v R j (by omega), List.take_add_one, List.getElem?_eq_getElem (show j < R.length by omega), e, List.filter_append, List.map_append]
    congr 1
    by_cases h : noV v R[j] = true
    · rw [if_pos h]; simp [h]
    · rw [if_neg h]; simp [h]
def allE (E : List (List Int)) (v : Int) : List (List Int) := E ++ if (near E v).length = 2 then [near E v] else []
theorem allE_len (E : List (List Int)) (v : Int) : (allE E v).length ≤ E.length + 1 := by
  unfold allE
  rw [List.length_append]
  split <;> simp
theorem allE_mem {w : List Int} {E : List (List Int)} (hg : IsGr w E) {v : Int} {e : List Int} (h : e ∈ allE E v) : ∃ a b : Int, e = [a, b] ∧ (0 ≤ a ∧ a < w.length) ∧ 0 ≤ b ∧ b < w.length := by
  unfold allE at h
  rcases List.mem_append.1 h with h | h
  · obtain ⟨a, b, h, h1, h2, h3⟩ : ∃ a b : Int, e = [a, b] ∧ 0 ≤ a ∧ a < b ∧ b < w.length := by
      obtain ⟨j, hj, h, h1, h2, h3⟩ := hg.2.2.1.mem h
      exact ⟨_, _, h, h1, h2, h3⟩
    exact ⟨a, b, h, by omega, by omega⟩
  · split at h
    · rename_i hl
      rw [List.mem_singleton] at h
      have hin := fun x => near_in hg.2.2.1 (v := v) (x := x)
      match hnr : near E v, hl with
      | [a, b], _ =>
        rw [hnr] at hin
        exact ⟨a, b, by rw [h, hnr], hin a (by simp), hin b (by simp)⟩
    · simp at h
theorem allE_fX {w : List Int} {E : List (List Int)} (hg : IsGr w E) (v : Int) : fX v (allE E v) (allE E v).length = cnX E v := by
  rw [fX_eq _ _ _ (Nat.le_refl _), List.take_length]
  unfold cnX midE allE
  rw [List.filter_append]
  congr 2
  split
  · rename_i hl
    rw [List.filter_eq_self]
    intro e he
    rw [List.mem_singleton] at he
    have hne : ∀ x ∈ near E v, x ≠ v := fun x hx => ((hg.2.2.1.adj ((near_mem hg.2.2.1).1 hx)).2.2).symm
    match hnr : near E v, hl with
    | [a, b], _ =>
      rw [hnr] at hne
      rw [he, hnr, noV_iff]
      exact ⟨hne a (by simp), hne b (by simp)⟩
  · rfl
theorem own_csE {id : Nat} {cs cs' : List D} (h : cs = cs') : AV.own id (.sl true 1 cs) = AV.own id (.sl true 1 cs') := by rw [h]
theorem LL_at {R : List (List Int)} {i : Nat} (h : i < R.length) : (LL R)[i]? = some (.sl true 1 (ints (R.getD i []))) := by
  simp [LL, List.getD, h]
theorem erase_cut (W : List Int) (v : Nat) (hv : v < W.length) : W.take v ++ (W.drop (v + 1)).take (W.length - (v + 1)) = W.eraseIdx v := by
  rw [show (W.drop (v + 1)).take (W.length - (v + 1)) = W.drop (v + 1) from List.take_of_length_le (by simp), List.eraseIdx_eq_take_drop_succ]
structure HidG (K : Prop) : Prop where
  out : K
theorem cutG {K G : Prop} (f : HidG K → G) (k : K) : G := f ⟨k⟩
theorem WpA.forgetG {P : Program} {n : NN} {st : Nat → AV} {nx : Nat} {c : Code} {Q : Exit → (Nat → AV) → Nat → Prop} (slots : Nat → Nat → Nat → List (Nat × AV)) (a b d : Nat) (h0 : Has st (slots a b d)) (h : ∀ a b d s k, WpA P n c (puts s (slots a b d)) k Q) : WpA P n c st nx Q := by
  have := h a b d st nx
  rwa [puts_has _ _ h0] at this
set_option maxRecDepth 100000 in
theorem contractS_c (w : List Int) (E : List (List Int)) (v : Nat) (hg : IsGr w E) (hv : v < w.length) : CallA Try.prog 21 [aGr w E, aI v] (if FitC w E v then [rGr (cnW w E v) (cnE E v), rB true] else [rGr [] [], rB false]) [] := by
  have hlen := hg.1
  have hfew := hg.few
  have hN := near_c w E v (by omega) (gr_row hg.2.2.1)
  have hO := l01Own_c w (by omega)
  have hO2 := ownSS_c E (by omega) (fun i hi => by have := gr_row hg.2.2.1 i hi; omega)
  have hnl := near_le hg.2.2.1 (v : Int)
  have hin : ∀ x ∈ near E v, 0 ≤ x ∧ x < w.length := fun x hx => near_in hg.2.2.1 hx
  have hnd := near_nodup hg.2.2.1 (v : Int)
  have hwb := fun i => hg.wall i
  have hRl := allE_len E v
  have hRm : ∀ e ∈ allE E v, ∃ a b : Int, e = [a, b] ∧ (0 ≤ a ∧ a < w.length) ∧ 0 ≤ b ∧ b < w.length := fun e he => allE_mem hg he
  have hRx := allE_fX hg (v : Int)
  have hXr : ∀ r ∈ cnX E v, r.length ≤ 1000000 := fun r hr => by
    obtain ⟨e, _, rfl⟩ := List.mem_map.1 hr
    show 2 ≤ 1000000
    decide
  have hXl : (cnX E v).length ≤ (allE E v).length := by rw [← hRx]; exact fX_len _ _ _
  have hRp : (near E v).length = 2 → allE E v = E ++ [near E v] := fun h => by unfold allE; rw [if_pos h]
  have hRn : (near E v).length ≠ 2 → allE E v = E := fun h => by unfold allE; rw [if_neg h, List.append_nil]
  have hWd : cnW w E v = (incW w (near E v) (near E v).length).eraseIdx v := by unfold cnW cnI; rw [Int.toNat_natCast]
  have hEd : cnE E v = srtL (cnX E v) (cnX E v).length := rfl
  have hFd : FitC w E v ↔ ∀ x ∈ near E v, w.getD (x.toNat * 1) 0 + 1 ≤ 1000 := by unfold FitC; simp only [Nat.mul_one]
  rw [hWd, hEd]
  clear hWd hEd hg
  generalize allE E v = R at *
  generalize cnX E v = X at *
  generalize near E v = nr at *
  by_cases hf : FitC w E v
  · rw [if_pos hf]
    rw [hFd] at hf
    have hil := incW_len w nr nr.length
    refine callA_of _ Try.func21 rfl Try.ntmps21 solid_any ?_
    repeat' (first | refine Two.mk (fun _ => ?_) (fun _ => ?_) | (guard_target =~ AtN 16; first | refine RunU.cons (step_call (hN) (.sh (.sh .nil)) (.shAgg rfl aggs_any (.sh shows_any .nil)) rfl) ?_) | (guard_target =~ AtN 19; first | refine RunU.cons (step_call (hO) (.sh .nil) (.sh shows_any .nil) rfl) ?_) | refine goA ?_ | (guard_target =~ IsG; first | refine psA ?_ | (guard_target =~ AtS 16; first | refine RunU.doit rfl rfl (step_call (hN) (.sh (.sh .nil)) (.shAgg rfl aggs_any (.sh shows_any .nil)) rfl) ?_) | (guard_target =~ AtS 19; first | refine RunU.doit rfl rfl (step_call (hO) (.sh .nil) (.sh shows_any .nil) rfl) ?_) | refine gdA ?_) | (refine neA ?_; first | refine nxA ?_ | refine Done.ret (.cell inferInstance rfl rfl (.one res_any .nil)) (.sh (.sh .nil)) ?_ rfl) | fail)
    all_goals try (exfalso; omega)
    refine WpA.loop_ids2 (fun j i6 i7 => [(1, vG v), (2, .own 2 (.pt true [.sl false 1 (ints w), .sl false 1 (LLs E)])), (4, .own 3 (.pt true [.sl true 1 [], .sl true 1 []])), (6, .own i6 (.sl true 1 (ints nr))), (7, .own i7 (.sl true 1 (ints (incW w nr j)))), (8, vG j)]) (fun j => j ≤ nr.length) (fun j => nr.length - j) 0 _ _ (by omega) ⟨rfl, rfl, rfl, by exact rfl, by exact rfl, rfl, trivial⟩ ?_
    intro j i6 i7 s nx hj
    by_cases hlt : j < nr.length
    · have hx := hin _ (getD_mem hlt)
      rw [← Nat.mul_one j] at hx
      have hil := incW_len w nr j
      have h1 := incW_val hin hnd hlt
      have h3 := hwb ((nr.getD (j * 1) 0).toNat * 1)
      have h4 := hf _ (getD_mem hlt)
      rw [← Nat.mul_one j] at h4
      rw [← h1] at h3 h4
      have h5 : ((incW w nr j).set ((nr.getD (j * 1) 0).toNat * 1) ((incW w nr j).getD ((nr.getD (j * 1) 0).toNat * 1) 0 + 1)).getD ((nr.getD (j * 1) 0).toNat * 1) 0 = (incW w nr j).getD ((nr.getD (j * 1) 0).toNat * 1) 0 + 1 := by
        rw [getD_setI (by omega), if_pos rfl]
      have h6 := incW_step w nr j
      clear hO2 hRm hRx hRp hRn hFd hf hin hnd hwb h1
      repeat' (first | refine Two.mk (fun _ => ?_) (fun _ => ?_) | refine goA ?_ | (guard_target =~ IsG; first | refine psA ?_ | refine gdA ?_) | (refine neA ?_; first | refine nxA ?_ | refine Done.ret (.cell inferInstance rfl rfl (.one res_any .nil)) (.sh (.sh .nil)) ?_ rfl) | fail)
      all_goals try (exfalso; omega)
      all_goals exact ⟨j + 1, by omega, ⟨_, _, rfl, rfl, rfl, rfl, by exact own_ints h6, int_eq (by omega), trivial⟩, by omega⟩
    · obtain rfl : j = nr.length := by omega
      have hO3 := l01Own_c ((incW w nr nr.length).take v) (by simp; omega)
      have hO4 := l01Own_c nr (by omega)
      have hcut := erase_cut (incW w nr nr.length) v (by omega)
      clear hwb hf hFd hin
      generalize incW w nr nr.length = W at *
      apply cutG
      · intro key
        repeat' (first | refine Two.mk (fun _ => ?_) (fun _ => ?_) | (guard_target =~ AtN 47; first | refine RunU.cons (step_call (hO3) (.sh .nil) (.sh shows_any .nil) rfl) ?_) | (guard_target =~ AtN 56; first | refine RunU.cons (step_call (hO2) (.sh .nil) (.sh shows_any .nil) rfl) ?_) | (guard_target =~ AtN 62; first | refine RunU.cons (step_call (hO4) (.sh .nil) (.sh shows_any .nil) rfl) ?_) | refine goA ?_ | (guard_target =~ IsG; first | refine psA ?_ | (guard_target =~ AtS 47; first | refine RunU.doit rfl rfl (step_call (hO3) (.sh .nil) (.sh shows_any .nil) rfl) ?_) | (guard_target =~ AtS 56; first | refine RunU.doit rfl rfl (step_call (hO2) (.sh .nil) (.sh shows_any .nil) rfl) ?_) | (guard_target =~ AtS 62; first | refine RunU.doit rfl rfl (step_call (hO4) (.sh .nil) (.sh shows_any .nil) rfl) ?_) | refine gdA ?_) | (refine neA ?_; first | refine nxA ?_ | refine Done.ret (.cell inferInstance rfl rfl (.one res_any .nil)) (.sh (.sh .nil)) ?_ rfl) | fail)
        all_goals try (exfalso; omega)
        all_goals refine WpA.forgetG (fun i9 i10 _ => [(1, vG v), (4, .own 3 (.pt true [.sl true 1 [], .sl true 1 []])), (9, .own i9 (.pt true [.sl true 1 (ints (W.eraseIdx v)), .sl true 1 []])), (10, .own i10 (.sl true 1 (LL R))), (11, vG 0)]) _ _ 0 ⟨rfl, rfl, by exact own_gr3 (E := []) hcut rfl, by exact own_csE (by first | (show LL (E ++ [nr]) = LL R; rw [hRp (by omega)]) | (show LL E = LL R; rw [hRn (by omega)])), rfl, trivial⟩ ?_
        all_goals exact key.out
      intro i9 i10 _ s nx
      refine WpA.loop_slots (ι := Nat × List D × Nat × Nat) (fun q => [(1, vG v), (4, .own 3 (.pt true [.sl true 1 [], .sl true 1 []])), (9, .own q.2.2.1 (.pt true [.sl true 1 (ints (W.eraseIdx v)), .sl true 1 (LL (fX v R q.1))])), (10, .own q.2.2.2 (.sl true 1 q.2.1)), (11, vG q.1)]) (fun q => (q.1 ≤ R.length ∧ q.2.1.length = R.length) ∧ ∀ i, q.1 ≤ i → i < R.length → q.2.1[i]? = some (.sl true 1 (ints (R.getD i [])))) (fun q => R.length - q.1) (0, LL R, i9, i10) ⟨⟨by simp, by simp [LL]⟩, fun i _ hi => LL_at hi⟩ ⟨rfl, rfl, rfl, rfl, rfl, trivial⟩ ?_
      clear hRp hRn hcut
      rintro ⟨j, cs, i9, i10⟩ s nx ⟨⟨hj, hcl⟩, hcs⟩
      simp only at hj hcl hcs
      dsimp only
      by_cases hlt : j < R.length
      · obtain ⟨a, b, hab, ha, hb⟩ := hRm (R.getD (j * 1) []) (by rw [Nat.mul_one, List.getD_eq_getElem?_getD, List.getElem?_eq_getElem hlt]; exact List.getElem_mem _)
        have hrow : cs[j * 1]? = some (.sl true 1 (ints (R.getD (j * 1) []))) := by rw [Nat.mul_one]; exact hcs j (Nat.le_refl _) hlt
        have hfx : fX v R (j + 1) = fX v R j ++ if noV v (R.getD (j * 1) []) = true then [dcE v (R.getD (j * 1) [])] else [] := by rw [Nat.mul_one]; rfl
        have hnext : ∀ i, j + 1 ≤ i → i < R.length → cs[i]? = some (.sl true 1 (ints (R.getD i []))) := fun i h1 h2 => hcs i (by omega) h2
        have hfl := fX_len v R j
        generalize R.getD (j * 1) [] = r at *
        have hrl : r.length = 2 := by rw [hab]; rfl
        have h0 : r.getD (0 * 1) 0 = a := by rw [hab]; rfl
        have h1 : r.getD (1 * 1) 0 = b := by rw [hab]; rfl
        have hnv := noV_iff (v := (v : Int)) (e := r)
        rw [show e0 r = a from h0, show e1 r = b from h1] at hnv
        clear hcs hRm hRx
        by_cases hno : noV v r = true
        · rw [if_pos hno] at hfx
          have hnv := hnv.1 hno
          clear hno
          have hset : cs = cs.set (j * 1) (.sl true 1 (ints (dcT v r 0))) := by
            symm
            refine List.ext_getElem? fun i => ?_
            by_cases e : j * 1 = i
            · subst e; rw [List.getElem?_set_self (by omega), hrow]; rfl
            · rw [List.getElem?_set_ne e]
          repeat' (first | refine Two.mk (fun _ => ?_) (fun _ => ?_) | (guard_target =~ IsN; first | refine RunU.cons (step_load (d := 74) rfl rfl rfl rfl hrow rfl) ?_ | refine RunU.cons (step_index_als (d := 76) rfl rfl (nav_cs hrow) rfl (by first | with_reducible exact (Int.natCast_add_one _).symm | with_reducible exact idx_lit _ | exact rfl | exact (Int.toNat_of_nonneg (by omega)).symm) (by simp [ints]; omega) rfl) ?_ | refine RunU.cons (step_load (d := 77) rfl rfl (nav_cs hrow) rfl (ints_get (by omega)) rfl) ?_ | refine RunU.cons (step_index_als (d := 82) rfl rfl (nav_cs hrow) rfl (by first | with_reducible exact (Int.natCast_add_one _).symm | with_reducible exact idx_lit _ | exact rfl | exact (Int.toNat_of_nonneg (by omega)).symm) (by simp [ints]; omega) rfl) ?_ | refine RunU.cons (step_load (d := 83) rfl rfl (nav_cs hrow) rfl (ints_get (by omega)) rfl) ?_) | refine goA ?_ | (guard_target =~ IsG; first | refine psA ?_ | refine RunU.doit rfl rfl (step_load (d := 74) rfl rfl rfl rfl hrow rfl) ?_ | refine RunU.doit rfl rfl (step_index_als (d := 76) rfl rfl (nav_cs hrow) rfl (by first | with_reducible exact (Int.natCast_add_one _).symm | with_reducible exact idx_lit _ | exact rfl | exact (Int.toNat_of_nonneg (by omega)).symm) (by simp [ints]; omega) rfl) ?_ | refine RunU.doit rfl rfl (step_load (d := 77) rfl rfl (nav_cs hrow) rfl (ints_get (by omega)) rfl) ?_ | refine RunU.doit rfl rfl (step_index_als (d := 82) rfl rfl (nav_cs hrow) rfl (by first | with_reducible exact (Int.natCast_add_one _).symm | with_reducible exact idx_lit _ | exact rfl | exact (Int.toNat_of_nonneg (by omega)).symm) (by simp [ints]; omega) rfl) ?_ | refine RunU.doit rfl rfl (step_load (d := 83) rfl rfl (nav_cs hrow) rfl (ints_get (by omega)) rfl) ?_ | refine gdA ?_) | (refine neA ?_; first | refine nxA ?_ | refine Done.ret (.cell inferInstance rfl rfl (.one res_any .nil)) (.sh (.sh .nil)) ?_ rfl) | fail)
          all_goals try (exfalso; omega)
          refine WpA.loop_slots (ι := Nat) (fun k => [(1, vG v), (4, .own 3 (.pt true [.sl true 1 [], .sl true 1 []])), (9, .own i9 (.pt true [.sl true 1 (ints (W.eraseIdx v)), .sl true 1 (LL (fX v R j))])), (10, .own i10 (.sl true 1 (cs.set (j * 1) (.sl true 1 (ints (dcT v r k)))))), (11, vG j), (12, .als 10 i10 [j * 1]), (13, vG k)]) (fun k => k ≤ 2) (fun k => 2 - k) 0 (by omega) ⟨rfl, rfl, rfl, by exact own_csE hset, rfl, rfl, rfl, trivial⟩ ?_
          clear hrow hset
          intro k s2 nx2 hk
          have hk1 : (cs.set (j * 1) (.sl true 1 (ints (dcT v r k))))[j * 1]? = some (.sl true 1 (ints (dcT v r k))) := by rw [List.getElem?_set_self (by omega)]
          have hkl := dcT_len v r k
          have hcl2 : (cs.set (j * 1) (.sl true 1 (ints (dcT v r k)))).length = R.length := by rw [List.length_set]; exact hcl
          by_cases hlt2 : k < 2
          · have hkv := dcT_at v r k k (Nat.le_refl _)
            have hkb : 0 ≤ r.getD k 0 ∧ r.getD k 0 < w.length := by
              rcases Nat.lt_or_ge k 1 with h | h
              · obtain rfl : k = 0 := by omega
                rw [show r.getD 0 0 = a from h0]; exact ha
              · obtain rfl : k = 1 := by omega
                rw [show r.getD 1 0 = b from h1]; exact hb
            have hkb : 0 ≤ (dcT v r k).getD (k * 1) 0 ∧ (dcT v r k).getD (k * 1) 0 < w.length := by rw [Nat.mul_one, hkv]; exact hkb
            have hst : (if (dcT v r k).getD (k * 1) 0 > v then (dcT v r k).set (k * 1) ((dcT v r k).getD (k * 1) 0 - 1) else dcT v r k) = dcT v r (k + 1) := by rw [Nat.mul_one]; rfl
            clear hkv hnext
            generalize dcT v r k = rk at *
            by_cases hgt : rk.getD (k * 1) 0 > v
            · rw [if_pos hgt] at hst
              repeat' (first | refine Two.mk (fun _ => ?_) (fun _ => ?_) | (guard_target =~ IsN; first | refine RunU.cons (step_index_als (d := 93) rfl rfl (nav_cs hk1) rfl (by first | with_reducible exact (Int.natCast_add_one _).symm | with_reducible exact idx_lit _ | exact rfl | exact (Int.toNat_of_nonneg (by omega)).symm) (by simp [ints]; omega) rfl) ?_ | refine RunU.cons (step_load (d := 94) rfl rfl (nav_cs hk1) rfl (ints_get (by omega)) rfl) ?_ | refine RunU.cons (step_index_als (d := 99) rfl rfl (nav_cs hk1) rfl (by first | with_reducible exact (Int.natCast_add_one _).symm | with_reducible exact idx_lit _ | exact rfl | exact (Int.toNat_of_nonneg (by omega)).symm) (by simp [ints]; omega) rfl) ?_ | refine RunU.cons (step_load (d := 100) rfl rfl (nav_cs hk1) rfl (ints_get (by omega)) rfl) ?_ | refine RunU.cons (step_index_als (d := 102) rfl rfl (nav_cs hk1) rfl (by first | with_reducible exact (Int.natCast_add_one _).symm | with_reducible exact idx_lit _ | exact rfl | exact (Int.toNat_of_nonneg (by omega)).symm) (by simp [ints]; omega) rfl) ?_ | refine RunU.cons (step_store_cs rfl rfl hk1 rfl (by omega)) ?_) | refine goA ?_ | (guard_target =~ IsG; first | refine psA ?_ | refine RunU.doit rfl rfl (step_index_als (d := 93) rfl rfl (nav_cs hk1) rfl (by first | with_reducible exact (Int.natCast_add_one _).symm | with_reducible exact idx_lit _ | exact rfl | exact (Int.toNat_of_nonneg (by omega)).symm) (by simp [ints]; omega) rfl) ?_ | refine RunU.doit rfl rfl (step_load (d := 94) rfl rfl (nav_cs hk1) rfl (ints_get (by omega)) rfl) ?_ | refine RunU.doit rfl rfl (step_index_als (d := 99) rfl rfl (nav_cs hk1) rfl (by first | with_reducible exact (Int.natCast_add_one _).symm | with_reducible exact idx_lit _ | exact rfl | exact (Int.toNat_of_nonneg (by omega)).symm) (by simp [ints]; omega) rfl) ?_ | refine RunU.doit rfl rfl (step_load (d := 100) rfl rfl (nav_cs hk1) rfl (ints_get (by omega)) rfl) ?_ | refine RunU.doit rfl rfl (step_index_als (d := 102) rfl rfl (nav_cs hk1) rfl (by first | with_reducible exact (Int.natCast_add_one _).symm | with_reducible exact idx_lit _ | exact rfl | exact (Int.toNat_of_nonneg (by omega)).symm) (by simp [ints]; omega) rfl) ?_ | refine RunU.doit rfl rfl (step_store_cs rfl rfl hk1 rfl (by omega)) ?_ | refine gdA ?_) | (refine neA ?_; first | refine nxA ?_ | refine Done.ret (.cell inferInstance rfl rfl (.one res_any .nil)) (.sh (.sh .nil)) ?_ rfl) | fail)
              all_goals try (exfalso; omega)
              all_goals exact ⟨k + 1, by omega, ⟨rfl, rfl, rfl, by exact own_csE (by rw [List.set_set, hst]), rfl, rfl, int_eq (by omega), trivial⟩, by omega⟩
            · rw [if_neg hgt] at hst
              repeat' (first | refine Two.mk (fun _ => ?_) (fun _ => ?_) | (guard_target =~ IsN; first | refine RunU.cons (step_index_als (d := 93) rfl rfl (nav_cs hk1) rfl (by first | with_reducible exact (Int.natCast_add_one _).symm | with_reducible exact idx_lit _ | exact rfl | exact (Int.toNat_of_nonneg (by omega)).symm) (by simp [ints]; omega) rfl) ?_ | refine RunU.cons (step_load (d := 94) rfl rfl (nav_cs hk1) rfl (ints_get (by omega)) rfl) ?_) | refine goA ?_ | (guard_target =~ IsG; first | refine psA ?_ | refine RunU.doit rfl rfl (step_index_als (d := 93) rfl rfl (nav_cs hk1) rfl (by first | with_reducible exact (Int.natCast_add_one _).symm | with_reducible exact idx_lit _ | exact rfl | exact (Int.toNat_of_nonneg (by omega)).symm) (by simp [ints]; omega) rfl) ?_ | refine RunU.doit rfl rfl (step_load (d := 94) rfl rfl (nav_cs hk1) rfl (ints_get (by omega)) rfl) ?_ | refine gdA ?_) | (refine neA ?_; first | refine nxA ?_ | refine Done.ret (.cell inferInstance rfl rfl (.one res_any .nil)) (.sh (.sh .nil)) ?_ rfl) | fail)
              all_goals try (exfalso; omega)
              all_goals exact ⟨k + 1, by omega, ⟨rfl, rfl, rfl, by exact own_csE (by rw [hst]), rfl, rfl, int_eq (by omega), trivial⟩, by omega⟩
          · obtain rfl : k = 2 := by omega
            have h2' : dcT v r 2 = dcE v r := by rw [hab]; exact dcT_two v a b
            rw [h2'] at hk1 ⊢
            clear hkl hcl2 h2' h0 h1 hab hrl
            generalize dcE v r = re at *
            repeat' (first | refine Two.mk (fun _ => ?_) (fun _ => ?_) | (guard_target =~ IsN; first | refine RunU.cons (step_slice_lit (d := 106) (.cons (give_cs rfl rfl hk1) .nil) (by exact rfl) (by decide) rfl) ?_) | refine goA ?_ | (guard_target =~ IsG; first | refine psA ?_ | refine RunU.doit rfl rfl (step_slice_lit (d := 106) (.cons (give_cs rfl rfl hk1) .nil) (by exact rfl) (by decide) rfl) ?_ | refine gdA ?_) | (refine neA ?_; first | refine nxA ?_ | refine Done.ret (.cell inferInstance rfl rfl (.one res_any .nil)) (.sh (.sh .nil)) ?_ rfl) | fail)
            all_goals try (exfalso; omega)
            all_goals exact ⟨(j + 1, (cs.set (j * 1) (.sl true 1 (ints re))).set (j * 1) .hole, _, _), ⟨⟨by simp only; omega, by simp [hcl]⟩, fun i q1 q2 => by simp only at q1 ⊢; rw [List.getElem?_set_ne (by omega), List.getElem?_set_ne (by omega)]; exact hnext i q1 q2⟩, ⟨rfl, rfl, by exact own_gr3 rfl hfx.symm, by exact rfl, int_eq (by simp only; omega), trivial⟩, by simp only; omega⟩
        · rw [if_neg hno, List.append_nil] at hfx
          have hnv : a = v ∨ b = v := by
            by_cases q : a = v
            · exact .inl q
            · by_cases q2 : b = v
              · exact .inr q2
              · exact absurd (hnv.2 ⟨q, q2⟩) hno
          clear hno
          repeat' (first | refine Two.mk (fun _ => ?_) (fun _ => ?_) | (guard_target =~ IsN; first | refine RunU.cons (step_load (d := 74) rfl rfl rfl rfl hrow rfl) ?_ | refine RunU.cons (step_index_als (d := 76) rfl rfl (nav_cs hrow) rfl (by first | with_reducible exact (Int.natCast_add_one _).symm | with_reducible exact idx_lit _ | exact rfl | exact (Int.toNat_of_nonneg (by omega)).symm) (by simp [ints]; omega) rfl) ?_ | refine RunU.cons (step_load (d := 77) rfl rfl (nav_cs hrow) rfl (ints_get (by omega)) rfl) ?_ | refine RunU.cons (step_index_als (d := 82) rfl rfl (nav_cs hrow) rfl (by first | with_reducible exact (Int.natCast_add_one _).symm | with_reducible exact idx_lit _ | exact rfl | exact (Int.toNat_of_nonneg (by omega)).symm) (by simp [ints]; omega) rfl) ?_ | refine RunU.cons (step_load (d := 83) rfl rfl (nav_cs hrow) rfl (ints_get (by omega)) rfl) ?_) | refine goA ?_ | (guard_target =~ IsG; first | refine psA ?_ | refine RunU.doit rfl rfl (step_load (d := 74) rfl rfl rfl rfl hrow rfl) ?_ | refine RunU.doit rfl rfl (step_index_als (d := 76) rfl rfl (nav_cs hrow) rfl (by first | with_reducible exact (Int.natCast_add_one _).symm | with_reducible exact idx_lit _ | exact rfl | exact (Int.toNat_of_nonneg (by omega)).symm) (by simp [ints]; omega) rfl) ?_ | refine RunU.doit rfl rfl (step_load (d := 77) rfl rfl (nav_cs hrow) rfl (ints_get (by omega)) rfl) ?_ | refine RunU.doit rfl rfl (step_index_als (d := 82) rfl rfl (nav_cs hrow) rfl (by first | with_reducible exact (Int.natCast_add_one _).symm | with_reducible exact idx_lit _ | exact rfl | exact (Int.toNat_of_nonneg (by omega)).symm) (by simp [ints]; omega) rfl) ?_ | refine RunU.doit rfl rfl (step_load (d := 83) rfl rfl (nav_cs hrow) rfl (ints_get (by omega)) rfl) ?_ | refine gdA ?_) | (refine neA ?_; first | refine nxA ?_ | refine Done.ret (.cell inferInstance rfl rfl (.one res_any .nil)) (.sh (.sh .nil)) ?_ rfl) | fail)
          all_goals try (exfalso; omega)
          all_goals exact ⟨(j + 1, cs, _, _), ⟨⟨by simp only; omega, hcl⟩, fun i q1 q2 => hnext i q1 q2⟩, ⟨rfl, rfl, by exact own_gr3 rfl hfx.symm, by exact rfl, int_eq (by simp only; omega), trivial⟩, by simp only; omega⟩
      · obtain rfl : j = R.length := by omega
        rw [hRx]
        have hSo := sorted_c X (by omega) hXr
        clear hcs hRm hRx
        repeat' (first | refine Two.mk (fun _ => ?_) (fun _ => ?_) | (guard_target =~ CallN_; first | refine RunU.cons (step_call (hSo) (.mv give_any .nil) (.mv .nil) rfl) ?_) | refine goA ?_ | (guard_target =~ IsG; first | refine psA ?_ | (guard_target =~ CallS_; first | refine RunU.doit rfl rfl (step_call (hSo) (.mv give_any .nil) (.mv .nil) rfl) ?_) | refine gdA ?_) | (refine neA ?_; first | refine nxA ?_ | refine Done.ret (.cell inferInstance rfl rfl (.one res_any .nil)) (.sh (.sh .nil)) ?_ rfl) | fail)
        all_goals first | rfl | (exfalso; omega)
  · rw [if_neg hf]
    rw [hFd] at hf
    refine callA_of _ Try.func21 rfl Try.ntmps21 solid_any ?_
    repeat' (first | refine Two.mk (fun _ => ?_) (fun _ => ?_) | (guard_target =~ AtN 16; first | refine RunU.cons (step_call (hN) (.sh (.sh .nil)) (.shAgg rfl aggs_any (.sh shows_any .nil)) rfl) ?_) | (guard_target =~ AtN 19; first | refine RunU.cons (step_call (hO) (.sh .nil) (.sh shows_any .nil) rfl) ?_) | refine goA ?_ | (guard_target =~ IsG; first | refine psA ?_ | (guard_target =~ AtS 16; first | refine RunU.doit rfl rfl (step_call (hN) (.sh (.sh .nil)) (.shAgg rfl aggs_any (.sh shows_any .nil)) rfl) ?_) | (guard_target =~ AtS 19; first | refine RunU.doit rfl rfl (step_call (hO) (.sh .nil) (.sh shows_any .nil) rfl) ?_) | refine gdA ?_) | (refine neA ?_; first | refine nxA ?_ | refine Done.ret (.cell inferInstance rfl rfl (.one res_any .nil)) (.sh (.sh .nil)) ?_ rfl) | fail)
    all_goals try (exfalso; omega)
    refine WpA.loop_ids2 (fun j i6 i7 => [(1, vG v), (2, .own 2 (.pt true [.sl false 1 (ints w), .sl false 1 (LLs E)])), (4, .own 3 (.pt true [.sl true 1 [], .sl true 1 []])), (6, .own i6 (.sl true 1 (ints nr))), (7, .own i7 (.sl true 1 (ints (incW w nr j)))), (8, vG j)]) (fun j => j ≤ nr.length ∧ ∀ i, i < j → w.getD ((nr.getD i 0).toNat * 1) 0 + 1 ≤ 1000) (fun j => nr.length - j) 0 _ _ ⟨by omega, fun i hi => by omega⟩ ⟨rfl, rfl, rfl, by exact rfl, by exact rfl, rfl, trivial⟩ ?_
    rintro j i6 i7 s nx ⟨hj, hok⟩
    by_cases hlt : j < nr.length
    · have hx := hin _ (getD_mem hlt)
      rw [← Nat.mul_one j] at hx
      have hil := incW_len w nr j
      have h1 := incW_val hin hnd hlt
      have h3 := hwb ((nr.getD (j * 1) 0).toNat * 1)
      have hstep : w.getD ((nr.getD (j * 1) 0).toNat * 1) 0 + 1 ≤ 1000 → ∀ i, i < j + 1 → w.getD ((nr.getD i 0).toNat * 1) 0 + 1 ≤ 1000 := fun q i hi => by
        by_cases e : i = j
        · rw [e, ← Nat.mul_one j]; exact q
        · exact hok i (by omega)
      rw [← h1] at h3 hstep
      have h5 : ((incW w nr j).set ((nr.getD (j * 1) 0).toNat * 1) ((incW w nr j).getD ((nr.getD (j * 1) 0).toNat * 1) 0 + 1)).getD ((nr.getD (j * 1) 0).toNat * 1) 0 = (incW w nr j).getD ((nr.getD (j * 1) 0).toNat * 1) 0 + 1 := by
        rw [getD_setI (by omega), if_pos rfl]
      have h6 := incW_step w nr j
      clear hO2 hRm hRx hRp hRn hFd hf hin hnd hwb h1 hok hXr
      by_cases hgt : (incW w nr j).getD ((nr.getD (j * 1) 0).toNat * 1) 0 + 1 ≤ 1000
      · have hstep := hstep hgt
        repeat' (first | refine Two.mk (fun _ => ?_) (fun _ => ?_) | refine goA ?_ | (guard_target =~ IsG; first | refine psA ?_ | refine gdA ?_) | (refine neA ?_; first | refine nxA ?_ | refine Done.ret (.cell inferInstance rfl rfl (.one res_any .nil)) (.sh (.sh .nil)) ?_ rfl) | fail)
        all_goals try (exfalso; omega)
        all_goals exact ⟨j + 1, ⟨by omega, hstep⟩, ⟨_, _, rfl, rfl, rfl, rfl, by exact own_ints h6, int_eq (by omega), trivial⟩, by omega⟩
      · clear hstep
        repeat' (first | refine Two.mk (fun _ => ?_) (fun _ => ?_) | refine goA ?_ | (guard_target =~ IsG; first | refine psA ?_ | refine gdA ?_) | (refine neA ?_; first | refine nxA ?_ | refine Done.ret (.cell inferInstance rfl rfl (.one res_any .nil)) (.sh (.sh .nil)) ?_ rfl) | fail)
        all_goals first | rfl | (exfalso; omega)
    · exfalso
      refine hf fun x hx => ?_
      obtain ⟨i, hi, rfl⟩ := getD_of_mem hx
      exact hok i (by omega)
end Go.Proofs.Ytneomlnhlpkbjaa
