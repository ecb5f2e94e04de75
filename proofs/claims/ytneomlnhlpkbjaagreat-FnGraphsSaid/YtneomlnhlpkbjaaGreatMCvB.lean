/- Copies of curves, and curves with their branches in another order, by the program. No condition. -/
import Derived.Test.YtneomlnhlpkbjaaGreatMCuG
import Derived.Test.YtneomlnhlpkbjaaGreatMAcA
import Derived.Test.YtneomlnhlpkbjaaGreatMPwE
set_option linter.unusedVariables false
set_option linter.unusedSimpArgs false
namespace Go.Proofs.YtneomlnhlpkbjaaGreat
set_option maxHeartbeats 20000000
open Go.Pv
open Go.ChangeShapes Go.WideShapes Go.ChangeAt Go.RowKit
attribute [local irreducible] RunU WpA Step CallG CallNG Done DoneN
instance fnOk160 : FnOk Tryz.prog 160 := ⟨_, Tryz.func160, rfl, by decide⟩
end Go.Proofs.YtneomlnhlpkbjaaGreat
namespace Go.Pv
open Go.RowKit
section
variable {P : Program} {n : NN} {nid nx : Nat} {st : Nat → AV} {f : Fr} {X : Nat → Prop} {a : Act} {w : World} {ρ : Nat → Rho} {L : Nat → List Nat}
class MakeTyS (P : Program) (T : TypeId) (d0 : outParam D) : Prop where
  out : ∃ e i z z1, P.underlying T = some (.slice e) ∧ P.info? e = some i ∧ i.size = 1 ∧ i.bytes ≤ 128 ∧ i.zero = some z ∧ z.cells = #[z1] ∧ ZeroD z1 d0
theorem MakeTyS.of {T e : TypeId} {z z1 : Value} {bytes : Nat} {d0 : D} (hu : P.underlying T = some (.slice e)) (hi : (P.info? e).map (fun i => (i.zero, i.size, i.bytes)) = some (some z, 1, bytes)) (h : bytes ≤ 128) (hc : z.cells = #[z1]) (hz : ZeroD z1 d0) : MakeTyS P T d0 := by
  obtain ⟨i, h1, h2⟩ := Option.map_eq_some_iff.1 hi
  simp only [Prod.mk.injEq] at h2
  obtain ⟨h2, h3, h4⟩ := h2
  exact ⟨e, i, z, z1, hu, h1, h3, by rw [h4]; exact h, h2, hc, hz⟩
end
end Go.Pv
namespace Go.Pv
open Go.RowKit
section
variable {P : Program} {n : NN} {nid nx : Nat} {st : Nat → AV} {f : Fr} {X : Nat → Prop} {a : Act} {w : World} {ρ : Nat → Rho} {L : Nat → List Nat}
theorem step_make0 {d sz : Nat} {T : TypeId} {x y : Operand} {k k' : IntKind} {i' : Int} {ty pos aft g} [hT : SliceTy P T sz] (hx : Lit st x (.int k 0)) (hy : Lit st y (.int k' i')) (h0 : 0 ≤ i') (hm : i' ≤ 1099511627776) (hd : n d = true) :
    Step P n ⟨some d, .makeSlice T x y, ty, pos, aft, g⟩ nid st (rdOf x ++ rdOf y) [(d, .own nid (.sl true sz []))] := by
  intro X st' hs hX f a w hn hrep K Q hK
  obtain ⟨ρ, L, hr⟩ := hrep
  subst hn
  obtain ⟨e, i, z, t1, t2, t3, t4, t5, t6, t7, t8⟩ := hT.out
  have ex := Lit.eval hr (hx.agree fun s h => hs s (by simp [h]))
  have ey := Lit.eval hr (hy.agree fun s h => hs s (by simp [h]))
  have hb : (i.bytes : Int) * i' ≤ 281474976710656 := by
    have h1 : (i.bytes : Int) * i' ≤ 128 * i' := Int.mul_le_mul_of_nonneg_right (by omega) h0
    omega
  have hrun := run_make (P := P) w T e i z t1 t2 t7 k k' 0 i' (by omega) h0 hb (by omega)
  rw [t3] at hrun
  refine wp_of_value (u := .slice (some ⟨w.heap.size, 0, none⟩) (0 : Int).toNat i'.toNat) (w' := w.alloc (.cells (madeCells z.cells (i'.toNat * sz)) e)) ?_
    (hr.done_new hK hd hX _ _ (Keep.alloc w _) (fun _ => .slice (some ⟨w.heap.size, 0, none⟩) (0 : Int).toNat i'.toNat) [w.heap.size] ?_ (by simp) (by simp))
  · simp only [execOp, ex, ey, Sem.run_bind, hrun, Result.andThen_ok, Sem.run_pure]
  · simp only [RD]
    refine ⟨trivial, [], [w.heap.size], [], by simp, .inr ⟨w.heap.size, 0, 0, i'.toNat, madeCells z.cells (i'.toNat * sz), e, rfl, alloc_new w _, by simp, Nat.zero_le _, by unfold maxLen; omega, ?_, by simp, rfl⟩, by simp [RDs]⟩
    rw [size_madeCells]
    omega
end
end Go.Pv
namespace Go.Proofs.YtneomlnhlpkbjaaGreat
set_option maxHeartbeats 20000000
open Go.Pv
open Go.ChangeShapes Go.WideShapes Go.ChangeAt Go.RowKit
attribute [local irreducible] RunU WpA Step CallG CallNG Done DoneN
instance fnOk153 : FnOk Tryz.prog 153 := ⟨_, Tryz.func153, rfl, by decide⟩
theorem take_LL (L : List (List Int)) {j : Nat} (h : j < L.length) : L.take j ++ [L.getD (j * 1) []] = L.take (j + 1) := by
  rw [Nat.mul_one, List.take_add_one, List.getElem?_eq_getElem h]
  simp [List.getD, h]
theorem copyLists_c (L : List (List Int)) (hL : L.length ≤ 1000) (hl : ∀ i, (L.getD i []).length ≤ 1000) : CallA Tryz.prog 160 [aLL L] [rLL L] [] := by
  refine callA_of _ Tryz.func160 rfl Tryz.ntmps160 solid_any ?_
  repeat' (first | refine Two.mk (fun _ => ?_) (fun _ => ?_) | (guard_target =~ IsN; first | refine RunU.cons (step_make0 (by exact rfl) rfl (by omega) (by omega) rfl) ?_) | refine goA ?_ | (refine neA ?_; first | refine nxA ?_ | refine Done.ret (.one res_any .nil) (.sh .nil) ?_ rfl) | fail)
  all_goals try (exfalso; omega)
  refine WpA.loop_slots2 (fun j i3 => [(3, .own i3 (.sl true 1 (LL (L.take j)))), (9, vLL L), (10, vQJ L.length), (11, vQJ j)]) (fun j => j ≤ L.length) (fun j => L.length - j) 0 _ (by omega) ⟨by exact rfl, rfl, rfl, rfl, trivial⟩ ?_
  intro j i3 s nx hj
  have hlj := hl (j * 1)
  have htl : (L.take j).length = j := by rw [List.length_take]; omega
  by_cases hlt : j < L.length
  · have e := take_LL L hlt
    have hC := clone_c (L.getD (j * 1) []) (by omega)
    generalize hA2 : L.take (j + 1) = A2 at *
    generalize L.take j = A at *
    clear hl
    repeat' (first | refine Two.mk (fun _ => ?_) (fun _ => ?_) | (guard_target =~ CallN_; first | refine RunU.cons (step_call (hC) (.sh .nil) (.sh shows_any .nil) rfl) ?_) | refine goA ?_ | (refine neA ?_; first | refine nxA ?_ | refine Done.ret (.one res_any .nil) (.sh .nil) ?_ rfl) | fail)
    all_goals try (exfalso; omega)
    all_goals exact ⟨j + 1, by omega, ⟨_, by exact own_LL (e.trans hA2.symm), rfl, rfl, int_eq (by omega), trivial⟩, by omega⟩
  · obtain rfl : j = L.length := by omega
    rw [List.take_length]
    clear hl
    repeat' (first | refine Two.mk (fun _ => ?_) (fun _ => ?_) | refine goA ?_ | (refine neA ?_; first | refine nxA ?_ | refine Done.ret (.one res_any .nil) (.sh .nil) ?_ rfl) | fail)
    all_goals first | rfl | (exfalso; omega)
end Go.Proofs.YtneomlnhlpkbjaaGreat
