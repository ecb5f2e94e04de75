/- The library's contracts at this program's numbers. No condition. -/
import Derived.Test.YtinenidbgmddhaaGreatUPwF
import Derived.Test.YtinenidbgmddhaaGreatUPwI
import Derived.Shelf.SlicesG.Reverse
import Derived.Test.YtinenidbgmddhaaGreatProg
set_option linter.unusedVariables false
set_option linter.unusedSimpArgs false
namespace Go.Pv
open Go.RowKit
open Go.Sort
section
variable {P : Program} {n : NN} {nid : Nat} {st : Nat → AV} {f : Fr} {X : Nat → Prop} {a : Act} {w : World} {ρ : Nat → Rho} {L : Nat → List Nat}
def Turns (P : Program) (K : FuncId) : Prop := ∀ (blk off cap : Nat) (zs : List Int) (w : World), Holds (Value.int .i64) w blk off zs.toArray → zs.length ≤ 9223372036854775807 →
  Calls P K #[.slice (some ⟨blk, off, none⟩) zs.length cap] w fun e w' => e = .returned (.tuple #[]) ∧ ∃ n, w' = putRow (Value.int .i64) (Go.Sort.ahead w n) blk off zs.reverse.toArray
theorem put_mid {enc : Int → Value} {cur : Array Value} {o lo : Nat} {l s : List Int} {us : List Value} (hlo : lo + s.length = l.length) (hc : o + l.length ≤ cur.size) (hu : (cur.toList.drop o).take l.length = l.map enc) :
    ((putCells enc (o + lo) s.toArray cur).toList.drop o).take l.length = (l.take lo ++ s).map enc := by
  apply List.ext_getElem?
  intro j
  rw [List.getElem?_take]
  have hu2 : ∀ k, k < l.length → cur[o + k]? = (l.map enc)[k]? := fun k hk => by
    rw [← hu, List.getElem?_take, if_pos hk, List.getElem?_drop, Array.getElem?_toList]
  by_cases hj : j < l.length
  · rw [if_pos hj, List.getElem?_drop]
    simp only [putCells, Array.getElem?_toList, Array.getElem?_mapIdx, List.getElem?_map]
    by_cases h2 : j < lo
    · have e1 : cur[o + j]? = some (enc l[j]) := by rw [hu2 j hj]; simp [hj]
      rw [List.getElem?_append_left (by rw [List.length_take]; omega), List.getElem?_take_of_lt h2]
      rw [e1]
      have hno : ¬ (o + lo ≤ o + j) := by omega
      simp [hj, hno]
    · rw [List.getElem?_append_right (by rw [List.length_take]; omega)]
      have e1 : cur[o + j]? = some (enc l[j]) := by rw [hu2 j hj]; simp [hj]
      rw [e1, List.length_take]
      have h3 : j - min lo l.length = j - lo := by omega
      have h4 : o + j - (o + lo) = j - lo := by omega
      simp [h3, h4, show j - lo < s.length by omega, show o + lo ≤ o + j by omega]
      intro h; omega
  · rw [if_neg hj, List.getElem?_eq_none (by simp; omega)]
set_option maxHeartbeats 4000000 in
theorem step_turn {K : FuncId} {d t x id lo m : Nat} {l : List Int} {ts : Array TypeId} {ty pos aft g} [FnOk P K] (hT : Turns P K) (ht : st t = .sub x id [] 1 lo m) (hx : st x = .own id (.sl true 1 (ints l))) (hm : lo + m = l.length) (h0 : 0 < m) (hne : (d == x) = false) (hd : n d = true) :
    Step P n ⟨some d, .call ⟨.value (.func K), #[.tmp t], ts⟩, ty, pos, aft, g⟩ nid st [t, x] [(d, .dead), (x, .own id (.sl true 1 (ints (l.take lo ++ (l.drop lo).reverse))))] := by
  intro X st' hs hX f a w hn hrep K' Q hK
  obtain ⟨ρ, L, hr⟩ := hrep
  subst hn
  have hne : d ≠ x := by simpa using hne
  have ht' := (hs t (by simp)).trans ht
  have hx' := (hs x (by simp)).trans hx
  have h1 := hr.slots t
  rw [ht'] at h1
  simp only [SR] at h1
  obtain ⟨hLt, a0, n0, c0, a1, c1, e1, e2, e3, e4, e5, e6⟩ := h1
  have h2 := hr.slots x
  rw [hx'] at h2
  simp only [SR, RD] at h2
  obtain ⟨e0, us, L0, L1, eL, hrow, hus⟩ := h2
  obtain ⟨rfl, rfl⟩ := (rds_ints l _ _ _ _).1 hus
  rw [List.append_nil] at eL
  rcases hrow with ⟨_, eu, _⟩ | ⟨g0, o, q, cap, cur, ty0, ev, k2, k3, k4, k5, k6, k7, rfl⟩
  · have : l.length = 0 := by have := congrArg List.length eu; simpa using this
    omega
  · have hlen : (iv l).length = l.length := by simp
    have hq : q = l.length := by omega
    subst hq
    have e0 : tmp a x = ρ id [] := e0
    rw [← e0, ev] at e1
    obtain ⟨rfl, rfl, rfl⟩ : a0 = some ⟨g0, o, none⟩ ∧ n0 = l.length ∧ c0 = cap := by
      have := e1; simp only [Value.slice.injEq] at this; exact ⟨this.1.symm, this.2.1.symm, this.2.2.symm⟩
    have e6 := (e6 (by omega)).2
    rw [Option.map_some, addr_off, Nat.mul_one] at e6
    subst e6
    have hg0 : g0 < w.heap.size := (hr.bound x g0 (by rw [eL]; simp)).1
    have hcur : ∀ j, j < l.length → cur[o + j]? = some (.int .i64 (l.getD j 0)) := fun j hj => by
      have : ((cur.toList.drop o).take (l.length * 1))[j]? = (iv l)[j]? := by rw [k7]
      rw [List.getElem?_take, if_pos (by omega), List.getElem?_drop, Array.getElem?_toList] at this
      rw [this]
      simp [List.getD, hj]
    have hH : Holds (Value.int .i64) w g0 (o + lo) (l.drop lo).toArray := by
      intro j hj
      simp only [List.size_toArray, List.length_drop] at hj
      constructor
      · rw [cell_of_row w g0 (o + lo + j) cur ty0 (0, 0) k2, show o + lo + j = o + (lo + j) by omega, hcur (lo + j) (by omega)]
        simp [List.getD, show lo + j < l.length by omega]
      · simp [World.frozen?, k2]
    have hcall := hT g0 (o + lo) c1 (l.drop lo) w hH (by rw [List.length_drop]; unfold maxLen at k5; omega)
    refine wp_of_enter (run_call a.eval rfl w) ?_
    have ea : (#[Operand.tmp t] : Array Operand).map a.eval = #[.slice (some ⟨g0, o + lo, none⟩) (l.drop lo).length c1] := by
      have : a.eval (.tmp t) = .slice (some ⟨g0, o + lo, none⟩) m c1 := e2
      simp [this, show m = l.length - lo by omega]
    rw [ea]
    refine hcall.mono ?_
    rintro e' w' ⟨rfl, nn, rfl⟩
    refine ⟨_, rfl, ?_⟩
    have hb : (putRow (Value.int .i64) (Go.Sort.ahead w nn) g0 (o + lo) (l.drop lo).reverse.toArray).heap[g0]? = some (.cells (putCells (Value.int .i64) (o + lo) (l.drop lo).reverse.toArray cur) ty0 (0, 0)) := by
      simp [putRow, mapBlock, Go.Sort.ahead, Array.getElem?_modify, k2, onCells]
    have hkeep : Keep w [g0] (putRow (Value.int .i64) (Go.Sort.ahead w nn) g0 (o + lo) (l.drop lo).reverse.toArray) := by
      refine ⟨rfl, rfl, rfl, by simp [putRow, mapBlock, Go.Sort.ahead], fun b hb hbM => ?_, by simp [putRow, mapBlock, Go.Sort.ahead]⟩
      have : g0 ≠ b := by rintro rfl; exact hbM (by simp)
      simp [Same, putRow, mapBlock, Go.Sort.ahead, Array.getElem?_modify, this]
    refine hK _ _ ⟨ρ, fun s => if s = d then [] else L s, ?_⟩
    refine hr.step (fun s => s = x ∨ s = d) [g0] _ _ _ _ _ _ (put_defers _ _ _) (put_size _ _ _) (hold_put _ hd) hkeep (fun g hg => ⟨x, .inl rfl, by rw [eL]; simpa using hg⟩) (fun _ _ => rfl) (fun s hs' => ?_) (fun s hs' => ?_) (fun s u hs' hu hsu g hg hgu => ?_) (fun _ h => .inl h) (fun s hs' i hi => ?_)
    · simp only [not_or] at hs'
      refine ⟨?_, tmp_put_other _ _ _ _ hs'.2, by rw [if_neg hs'.2]⟩
      simp only [puts]
      rw [put_other _ _ _ _ hs'.1, put_other _ _ _ _ hs'.2]
    · by_cases hsx : s = x
      · subst hsx
        rw [if_neg (Ne.symm hne), tmp_put_other _ _ _ _ (Ne.symm hne)]
        simp only [puts, put_same, SR, RD]
        refine ⟨⟨e0, iv (l.take lo ++ (l.drop lo).reverse), [g0], [], by rw [eL]; simp,   .inr ⟨g0, o, l.length, c0, _, ty0, ev, hb, ?_, k4, k5, ?_, ?_, rfl⟩, (rds_ints _ _ _ _ _).2 ⟨rfl, rfl⟩⟩, by rw [eL]; simp, fun g hg => ?_⟩
        · simp; omega
        · simp [putCells]; omega
        · rw [Nat.mul_one]
          rw [Nat.mul_one] at k7
          exact put_mid (us := []) (by rw [List.length_reverse, List.length_drop]; omega) (by omega) k7
        · rw [eL] at hg
          have : g = g0 := by simpa using hg
          subst this
          exact ⟨Nat.lt_of_lt_of_le hg0 hkeep.size, .inl ⟨s, .inl rfl, by rw [eL]; simp⟩⟩
      · have hs0 : s = d := hs'.resolve_left hsx
        subst hs0
        rw [if_pos rfl, tmp_put_same _ _ _ (hr.size _ hd)]
        simp only [puts]
        rw [put_other _ _ _ _ hsx, put_same]
        exact ⟨by simp only [SR], List.nodup_nil, fun g hg => by simp at hg⟩
    · by_cases hsx : s = x
      · have hu0 : u ≠ x := fun e => hsu (hsx.trans e.symm)
        have hu' : u = d := hu.resolve_left hu0
        rw [if_pos hu'] at hgu
        simp at hgu
      · have hs0 : s = d := hs'.resolve_left hsx
        rw [if_pos hs0] at hg
        simp at hg
    · by_cases hsx : s = x
      · subst hsx
        simp only [puts, put_same, AV.ids, List.mem_singleton] at hi
        rw [hi]
        exact .inl (hr.ids s id (by rw [hx']; simp [AV.ids]))
      · have hs0 : s = d := hs'.resolve_left hsx
        subst hs0
        simp only [puts] at hi
        rw [put_other _ _ _ _ hsx, put_same] at hi
        simp [AV.ids] at hi
end
end Go.Pv
namespace Go.Proofs.YtinenidbgmddhaaGreat
open Go.Shelf
def rev64_ren : Go.Shelf.Ren := ⟨fun | 35 => 133 | n => n, fun | 22 => 55 | 23 => 2 | 3 => 3 | 4 => 4 | 0 => 0 | n => n, fun | n => n⟩
theorem rev64 : Go.Proofs.SlLaysN.n35 Tryz.prog rev64_ren := {
  mixed := by kernel_rfl
  f35 := ⟨Tryz.f133.name, by decide, Tryz.func133.trans (congrArg some (by kernel_rfl))⟩
  t0 := Tryz.underlying0
  a0 := Tryz.isAgg0
  z0 := Tryz.sizeOf0
  v0 := Tryz.zeroValue0
  t3 := Tryz.underlying3
  a3 := Tryz.isAgg3
  z3 := Tryz.sizeOf3
  v3 := Tryz.zeroValue3
  t4 := Tryz.underlying4
  a4 := Tryz.isAgg4
  z4 := Tryz.sizeOf4
  v4 := Tryz.zeroValue4
  t22 := Tryz.underlying55
  a22 := Tryz.isAgg55
  z22 := Tryz.sizeOf55
  v22 := Tryz.zeroValue55
  t23 := Tryz.underlying2
  a23 := Tryz.isAgg2
  z23 := Tryz.sizeOf2
  v23 := Tryz.zeroValue2 }
end Go.Proofs.YtinenidbgmddhaaGreat
