/- make of an empty slice with room. No condition. -/
import Derived.Test.YtakecbnclmjloaaWPwI
namespace Go.Pv
set_option linter.unusedVariables false
set_option linter.unusedSimpArgs false
open Go.RowKit
section
variable {P : Program} {n : NN} {nid nx : Nat} {st : Nat → AV} {f : Fr} {X : Nat → Prop} {a : Act} {w : World} {ρ : Nat → Rho} {L : Nat → List Nat}
class MakeTyS (P : Program) (T : TypeId) (d0 : outParam D) : Prop where
  out : ∃ e i z z1, P.underlying T = some (.slice e) ∧ P.info? e = some i ∧ i.size = 1 ∧ i.bytes ≤ 128 ∧ i.zero = some z ∧ z.cells = #[z1] ∧ ZeroD z1 d0
theorem MakeTyS.of {T e : TypeId} {z z1 : Value} {bytes : Nat} {d0 : D} (hu : P.underlying T = some (.slice e)) (hi : (P.info? e).map (fun i => (i.zero, i.size, i.bytes)) = some (some z, 1, bytes)) (h : bytes ≤ 128) (hc : z.cells = #[z1]) (hz : ZeroD z1 d0) : MakeTyS P T d0 := by
  obtain ⟨i, h1, h2⟩ := Option.map_eq_some_iff.1 hi
  simp only [Prod.mk.injEq] at h2
  obtain ⟨h2, h3, h4⟩ := h2
  exact ⟨e, i, z, z1, hu, h1, h3, by rw [h4]; exact h, h2, hc, hz⟩
theorem run_make_rowS (t e : TypeId) (i : TypeInfo) (z z1 : Value) (ht : P.underlying t = some (.slice e)) (hi : P.info? e = some i) (hz : i.zero = some z) (hsize : i.size = 1) (hz1 : z.cells = #[z1])
    (kl kc : IntKind) (n : Nat) (hbytes : i.bytes * n ≤ 281474976710656) (h63 : n ≤ 9223372036854775807) (w : World) :
    (Instr.makeSlice t (.int kl (n : Int)) (.int kc (n : Int))).run P w = .ok (.slice (some ⟨w.heap.size, 0, none⟩) n n) (w.alloc (.cells (madeCells #[z1] n) e)) := by
  have hb' : (i.bytes : Int) * (n : Int) ≤ 281474976710656 := by
    have h : ((i.bytes * n : Nat) : Int) ≤ 281474976710656 := by omega
    rwa [Int.natCast_mul] at h
  have hr := run_make (P := P) w t e i z ht hi hz kl kc n n (by omega) (Int.le_refl _) hb' (by omega)
  simp only [Int.toNat_natCast, hsize, Nat.mul_one, hz1] at hr
  exact hr
theorem step_makeS {d m : Nat} {T : TypeId} {d0 : D} {x y : Operand} {k k' : IntKind} {i i' : Int} {ty pos aft g} [hT : MakeTyS P T d0] (hx : Lit st x (.int k i)) (hy : Lit st y (.int k' i')) (hi : i = (m : Int)) (hi' : i' = (m : Int)) (hm : m ≤ 1099511627776) (hd : n d = true) :
    Step P n ⟨some d, .makeSlice T x y, ty, pos, aft, g⟩ nid st (rdOf x ++ rdOf y) [(d, .own nid (.sl true 1 (List.replicate m d0)))] := by
  intro X st' hs hX f a w hn hrep K Q hK
  obtain ⟨ρ, L, hr⟩ := hrep
  subst hn hi hi'
  obtain ⟨e, i, z, z1, t1, t2, t3, t4, t5, t6, t7⟩ := hT.out
  have ex := Lit.eval hr (hx.agree fun s h => hs s (by simp [h]))
  have ey := Lit.eval hr (hy.agree fun s h => hs s (by simp [h]))
  have hrun := run_make_rowS (P := P) T e i z z1 t1 t2 t5 t3 t6 k k' m (by have : i.bytes * m ≤ 128 * m := Nat.mul_le_mul_right _ t4; omega) (by omega) w
  have h2 := ZeroD.rds_rep (F := f.F) (w := w.alloc (.cells (madeCells #[z1] m) e)) t7 m 0
  refine wp_of_value (u := .slice (some ⟨w.heap.size, 0, none⟩) m m) (w' := w.alloc (.cells (madeCells #[z1] m) e)) ?_
    (hr.done_new hK hd hX _ _ (Keep.alloc w _) (fun π => match π with | [] => .slice (some ⟨w.heap.size, 0, none⟩) m m | _ :: _ => z1) [w.heap.size] ?_ (by simp) (by simp))
  · simp only [execOp, ex, ey, Sem.run_bind, hrun, Result.andThen_ok, Sem.run_pure]
  · simp only [RD]
    refine ⟨trivial, List.replicate m z1, [w.heap.size], [], by simp, .mk0 ⟨w.heap.size, m, m, madeCells #[z1] m, e, rfl, alloc_new w _, by simp, Nat.le_refl _, by unfold maxLen; omega, by simp [size_madeCells], ?_, rfl⟩, ?_⟩
    · rw [toList_madeCells_one]; simp
    · exact RDs.rho _ 0 _ _ _ _ h2 (fun j _ => rfl)
end
end Go.Pv
namespace Go.Pv
set_option linter.unusedVariables false
set_option linter.unusedSimpArgs false
open Go.RowKit
section
variable {P : Program} {n : NN} {nid nx : Nat} {st : Nat → AV} {f : Fr} {X : Nat → Prop} {a : Act} {w : World} {ρ : Nat → Rho} {L : Nat → List Nat}
theorem step_make0 {d sz : Nat} {T : TypeId} {x y : Operand} {k k' : IntKind} {i' : Int} {ty pos aft g} [hT : SliceTy P T sz] (hx : Lit st x (.int k 0)) (hy : Lit st y (.int k' i')) (h0 : 0 ≤ i') (hm : i' ≤ 1099511627776) (hd : n d = true) :
    Step P n ⟨some d, .makeSlice T x y, ty, pos, aft, g⟩ nid st (rdOf x ++ rdOf y) [(d, .own nid (.sl true sz []))] := by
  intro X st' hs hX f a w hn hrep K Q hK
  obtain ⟨ρ, L, hr⟩ := hrep
  subst hn
  obtain ⟨e, i, z, t1, t2, t3, t4, t5, t6, t7, t8⟩ := hT.out
  have ex := Lit.eval hr (hx.agree fun s h => hs s (by simp [h]))
  have ey := Lit.eval hr (hy.agree fun s h => hs s (by simp [h]))
  have hb : (i.bytes : Int) * i' ≤ 281474976710656 := by
    have h1 : (i.bytes : Int) * i' ≤ 128 * i' := Int.mul_le_mul_of_nonneg_right (by omega) h0
    omega
  have hrun := run_make (P := P) w T e i z t1 t2 t7 k k' 0 i' (by omega) h0 hb (by omega)
  rw [t3] at hrun
  refine wp_of_value (u := .slice (some ⟨w.heap.size, 0, none⟩) (0 : Int).toNat i'.toNat) (w' := w.alloc (.cells (madeCells z.cells (i'.toNat * sz)) e)) ?_
    (hr.done_new hK hd hX _ _ (Keep.alloc w _) (fun _ => .slice (some ⟨w.heap.size, 0, none⟩) (0 : Int).toNat i'.toNat) [w.heap.size] ?_ (by simp) (by simp))
  · simp only [execOp, ex, ey, Sem.run_bind, hrun, Result.andThen_ok, Sem.run_pure]
  · simp only [RD]
    refine ⟨trivial, [], [w.heap.size], [], by simp, .inr ⟨w.heap.size, 0, 0, i'.toNat, madeCells z.cells (i'.toNat * sz), e, rfl, alloc_new w _, by simp, Nat.zero_le _, by unfold maxLen; omega, ?_, by simp, rfl⟩, by simp [RDs]⟩
    rw [size_madeCells]
    omega
end
end Go.Pv
