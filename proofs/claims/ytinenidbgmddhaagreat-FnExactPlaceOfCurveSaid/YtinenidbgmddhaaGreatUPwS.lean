/- Copies of curves, and curves with their branches in another order, by the program. No condition. -/
import Derived.Test.YtinenidbgmddhaaGreatUPwI
import Derived.Test.YtinenidbgmddhaaGreatUCvA
set_option linter.unusedVariables false
set_option linter.unusedSimpArgs false
namespace Go.Pv
open Go.RowKit
section
variable {P : Program} {n : NN} {nid nx : Nat} {st : Nat → AV} {f : Fr} {X : Nat → Prop} {a : Act} {w : World} {ρ : Nat → Rho} {L : Nat → List Nat}
class MakeTyS (P : Program) (T : TypeId) (d0 : outParam D) : Prop where
  out : ∃ e i z z1, P.underlying T = some (.slice e) ∧ P.info? e = some i ∧ i.size = 1 ∧ i.bytes ≤ 128 ∧ i.zero = some z ∧ z.cells = #[z1] ∧ ZeroD z1 d0
theorem MakeTyS.of {T e : TypeId} {z z1 : Value} {bytes : Nat} {d0 : D} (hu : P.underlying T = some (.slice e)) (hi : (P.info? e).map (fun i => (i.zero, i.size, i.bytes)) = some (some z, 1, bytes)) (h : bytes ≤ 128) (hc : z.cells = #[z1]) (hz : ZeroD z1 d0) : MakeTyS P T d0 := by
  obtain ⟨i, h1, h2⟩ := Option.map_eq_some_iff.1 hi
  simp only [Prod.mk.injEq] at h2
  obtain ⟨h2, h3, h4⟩ := h2
  exact ⟨e, i, z, z1, hu, h1, h3, by rw [h4]; exact h, h2, hc, hz⟩
theorem run_make_rowS (t e : TypeId) (i : TypeInfo) (z z1 : Value) (ht : P.underlying t = some (.slice e)) (hi : P.info? e = some i) (hz : i.zero = some z) (hsize : i.size = 1) (hz1 : z.cells = #[z1])
    (kl kc : IntKind) (n : Nat) (hbytes : i.bytes * n ≤ 281474976710656) (h63 : n ≤ 9223372036854775807) (w : World) :
    (Instr.makeSlice t (.int kl (n : Int)) (.int kc (n : Int))).run P w = .ok (.slice (some ⟨w.heap.size, 0, none⟩) n n) (w.alloc (.cells (madeCells #[z1] n) e)) := by
  have hb' : (i.bytes : Int) * (n : Int) ≤ 281474976710656 := by
    have h : ((i.bytes * n : Nat) : Int) ≤ 281474976710656 := by omega
    rwa [Int.natCast_mul] at h
  have hr := run_make (P := P) w t e i z ht hi hz kl kc n n (by omega) (Int.le_refl _) hb' (by omega)
  simp only [Int.toNat_natCast, hsize, Nat.mul_one, hz1] at hr
  exact hr
theorem step_makeS {d m : Nat} {T : TypeId} {d0 : D} {x y : Operand} {k k' : IntKind} {i i' : Int} {ty pos aft g} [hT : MakeTyS P T d0] (hx : Lit st x (.int k i)) (hy : Lit st y (.int k' i')) (hi : i = (m : Int)) (hi' : i' = (m : Int)) (hm : m ≤ 1099511627776) (hd : n d = true) :
    Step P n ⟨some d, .makeSlice T x y, ty, pos, aft, g⟩ nid st (rdOf x ++ rdOf y) [(d, .own nid (.sl true 1 (List.replicate m d0)))] := by
  intro X st' hs hX f a w hn hrep K Q hK
  obtain ⟨ρ, L, hr⟩ := hrep
  subst hn hi hi'
  obtain ⟨e, i, z, z1, t1, t2, t3, t4, t5, t6, t7⟩ := hT.out
  have ex := Lit.eval hr (hx.agree fun s h => hs s (by simp [h]))
  have ey := Lit.eval hr (hy.agree fun s h => hs s (by simp [h]))
  have hrun := run_make_rowS (P := P) T e i z z1 t1 t2 t5 t3 t6 k k' m (by have : i.bytes * m ≤ 128 * m := Nat.mul_le_mul_right _ t4; omega) (by omega) w
  have h2 := ZeroD.rds_rep (F := f.F) (w := w.alloc (.cells (madeCells #[z1] m) e)) t7 m 0
  refine wp_of_value (u := .slice (some ⟨w.heap.size, 0, none⟩) m m) (w' := w.alloc (.cells (madeCells #[z1] m) e)) ?_
    (hr.done_new hK hd hX _ _ (Keep.alloc w _) (fun π => match π with | [] => .slice (some ⟨w.heap.size, 0, none⟩) m m | _ :: _ => z1) [w.heap.size] ?_ (by simp) (by simp))
  · simp only [execOp, ex, ey, Sem.run_bind, hrun, Result.andThen_ok, Sem.run_pure]
  · simp only [RD]
    refine ⟨trivial, List.replicate m z1, [w.heap.size], [], by simp, .mk0 ⟨w.heap.size, m, m, madeCells #[z1] m, e, rfl, alloc_new w _, by simp, Nat.le_refl _, by unfold maxLen; omega, by simp [size_madeCells], ?_, rfl⟩, ?_⟩
    · rw [toList_madeCells_one]; simp
    · exact RDs.rho _ 0 _ _ _ _ h2 (fun j _ => rfl)
end
end Go.Pv
namespace Go.Pv
open Go.RowKit
section
variable {P : Program} {n : NN} {nid nx : Nat} {st : Nat → AV} {f : Fr} {X : Nat → Prop} {a : Act} {w : World} {ρ : Nat → Rho} {L : Nat → List Nat}
theorem step_make0 {d sz : Nat} {T : TypeId} {x y : Operand} {k k' : IntKind} {i' : Int} {ty pos aft g} [hT : SliceTy P T sz] (hx : Lit st x (.int k 0)) (hy : Lit st y (.int k' i')) (h0 : 0 ≤ i') (hm : i' ≤ 1099511627776) (hd : n d = true) :
    Step P n ⟨some d, .makeSlice T x y, ty, pos, aft, g⟩ nid st (rdOf x ++ rdOf y) [(d, .own nid (.sl true sz []))] := by
  intro X st' hs hX f a w hn hrep K Q hK
  obtain ⟨ρ, L, hr⟩ := hrep
  subst hn
  obtain ⟨e, i, z, t1, t2, t3, t4, t5, t6, t7, t8⟩ := hT.out
  have ex := Lit.eval hr (hx.agree fun s h => hs s (by simp [h]))
  have ey := Lit.eval hr (hy.agree fun s h => hs s (by simp [h]))
  have hb : (i.bytes : Int) * i' ≤ 281474976710656 := by
    have h1 : (i.bytes : Int) * i' ≤ 128 * i' := Int.mul_le_mul_of_nonneg_right (by omega) h0
    omega
  have hrun := run_make (P := P) w T e i z t1 t2 t7 k k' 0 i' (by omega) h0 hb (by omega)
  rw [t3] at hrun
  refine wp_of_value (u := .slice (some ⟨w.heap.size, 0, none⟩) (0 : Int).toNat i'.toNat) (w' := w.alloc (.cells (madeCells z.cells (i'.toNat * sz)) e)) ?_
    (hr.done_new hK hd hX _ _ (Keep.alloc w _) (fun _ => .slice (some ⟨w.heap.size, 0, none⟩) (0 : Int).toNat i'.toNat) [w.heap.size] ?_ (by simp) (by simp))
  · simp only [execOp, ex, ey, Sem.run_bind, hrun, Result.andThen_ok, Sem.run_pure]
  · simp only [RD]
    refine ⟨trivial, [], [w.heap.size], [], by simp, .inr ⟨w.heap.size, 0, 0, i'.toNat, madeCells z.cells (i'.toNat * sz), e, rfl, alloc_new w _, by simp, Nat.zero_le _, by unfold maxLen; omega, ?_, by simp, rfl⟩, by simp [RDs]⟩
    rw [size_madeCells]
    omega
end
end Go.Pv
namespace Go.Proofs.YtinenidbgmddhaaGreat
set_option maxHeartbeats 20000000
open Go.Pv
open Go.ChangeShapes Go.WideShapes Go.ChangeAt Go.RowKit
attribute [local irreducible] RunU WpA Step CallG CallNG Done DoneN
instance fnOk114 : FnOk Tryz.prog 114 := ⟨_, Tryz.func114, rfl, by decide⟩
instance fnOk96 : FnOk Tryz.prog 96 := ⟨_, Tryz.func96, rfl, by decide⟩
abbrev rCuv (B C : List (List Int)) : V := .agg [.sl true 1 (LL B), .sl true 1 (LL C)]
abbrev dCu (B C : List (List Int)) : D := .pt true [.sl true 1 (LL B), .sl true 1 (LL C)]
theorem own_cu {id : Nat} {B B' C C' : List (List Int)} (h : B = B') (h2 : C = C') : AV.own id (dCu B C) = AV.own id (dCu B' C') := by rw [h, h2]
theorem take_LL (L : List (List Int)) {j : Nat} (h : j < L.length) : L.take j ++ [L.getD (j * 1) []] = L.take (j + 1) := by
  rw [Nat.mul_one, List.take_add_one, List.getElem?_eq_getElem h]
  simp [List.getD, h]
theorem copyLists_c (L : List (List Int)) (hL : L.length ≤ 1000) (hl : ∀ i, (L.getD i []).length ≤ 1000) : CallA Tryz.prog 131 [aLL L] [rLL L] [] := by
  refine callA_of _ Tryz.func131 rfl Tryz.ntmps131 solid_any ?_
  repeat' (first | refine Two.mk (fun _ => ?_) (fun _ => ?_) | (guard_target =~ IsN; first | refine RunU.cons (step_make0 (by exact rfl) rfl (by omega) (by omega) rfl) ?_) | refine goA ?_ | (refine neA ?_; first | refine nxA ?_ | refine Done.ret (.one res_any .nil) (.sh .nil) ?_ rfl) | fail)
  all_goals try (exfalso; omega)
  refine WpA.loop_slots2 (fun j i3 => [(3, .own i3 (.sl true 1 (LL (L.take j)))), (9, vLL L), (10, vQJ L.length), (11, vQJ j)]) (fun j => j ≤ L.length) (fun j => L.length - j) 0 _ (by omega) ⟨by exact rfl, rfl, rfl, rfl, trivial⟩ ?_
  intro j i3 s nx hj
  have hlj := hl (j * 1)
  have htl : (L.take j).length = j := by rw [List.length_take]; omega
  by_cases hlt : j < L.length
  · have e := take_LL L hlt
    have hC := clone_c (L.getD (j * 1) []) (by omega)
    generalize hA2 : L.take (j + 1) = A2 at *
    generalize L.take j = A at *
    clear hl
    repeat' (first | refine Two.mk (fun _ => ?_) (fun _ => ?_) | (guard_target =~ CallN_; first | refine RunU.cons (step_call (hC) (.sh .nil) (.sh shows_any .nil) rfl) ?_) | refine goA ?_ | (refine neA ?_; first | refine nxA ?_ | refine Done.ret (.one res_any .nil) (.sh .nil) ?_ rfl) | fail)
    all_goals try (exfalso; omega)
    all_goals exact ⟨j + 1, by omega, ⟨_, by exact own_LL (e.trans hA2.symm), rfl, rfl, int_eq (by omega), trivial⟩, by omega⟩
  · obtain rfl : j = L.length := by omega
    rw [List.take_length]
    clear hl
    repeat' (first | refine Two.mk (fun _ => ?_) (fun _ => ?_) | refine goA ?_ | (refine neA ?_; first | refine nxA ?_ | refine Done.ret (.one res_any .nil) (.sh .nil) ?_ rfl) | fail)
    all_goals first | rfl | (exfalso; omega)
theorem copyBranch_c (l : List Int) (h : l.length ≤ 1000) : CallA Tryz.prog 132 [aBr1 l] [.agg [.sl true 1 (ints l)]] [] := by
  have hC := clone_c l (by omega)
  refine callA_of _ Tryz.func132 rfl Tryz.ntmps132 solid_any ?_
  repeat' (first | refine Two.mk (fun _ => ?_) (fun _ => ?_) | (guard_target =~ CallN_; first | refine RunU.cons (step_call (hC) (.sh .nil) (.sh shows_any .nil) rfl) ?_) | refine goA ?_ | (refine neA ?_; first | refine nxA ?_ | refine Done.ret (.cell inferInstance rfl rfl .nil) (.sh .nil) ?_ rfl) | fail)
  all_goals first | rfl | (exfalso; omega)
theorem copyCurve_c (B C : List (List Int)) (hB : B.length ≤ 1000) (hC : C.length ≤ 1000) (hb : ∀ i, (B.getD i []).length ≤ 1000) (hc : ∀ i, (C.getD i []).length ≤ 1000) : CallA Tryz.prog 94 [aCu B C] [rCuv B C] [] := by
  have hL := copyLists_c C hC hc
  clear hc hC
  refine callA_of _ Tryz.func94 rfl Tryz.ntmps94 solid_any ?_
  repeat' (first | refine Two.mk (fun _ => ?_) (fun _ => ?_) | (guard_target =~ CallN_; first | refine RunU.cons (step_call (hL) (.sh .nil) (.sh shows_any .nil) rfl) ?_) | refine goA ?_ | (refine neA ?_; first | refine nxA ?_ | refine Done.ret (.cell inferInstance rfl rfl .nil) (.sh .nil) ?_ rfl) | fail)
  all_goals try (exfalso; omega)
  clear hL
  refine WpA.loop_slots2 (fun j i3 => [(2, .own 2 (.pt true [.sl true 1 [], .sl true 1 []])), (3, .own i3 (dCu (B.take j) C)), (12, vLL B), (13, vQJ B.length), (14, vQJ j)]) (fun j => j ≤ B.length) (fun j => B.length - j) 0 _ (by omega) ⟨rfl, by exact rfl, rfl, rfl, rfl, trivial⟩ ?_
  intro j i3 s nx hj
  have hlj := hb (j * 1)
  have htl : (B.take j).length = j := by rw [List.length_take]; omega
  by_cases hlt : j < B.length
  · have e := take_LL B hlt
    have hC := copyBranch_c (B.getD (j * 1) []) (by omega)
    generalize hA2 : B.take (j + 1) = A2 at *
    generalize B.take j = A at *
    clear hb
    repeat' (first | refine Two.mk (fun _ => ?_) (fun _ => ?_) | (guard_target =~ CallN_; first | refine RunU.cons (step_call (hC) (.sh .nil) (.shAgg rfl aggs_any .nil) rfl) ?_) | refine goA ?_ | (refine neA ?_; first | refine nxA ?_ | refine Done.ret (.cell inferInstance rfl rfl .nil) (.sh .nil) ?_ rfl) | fail)
    all_goals try (exfalso; omega)
    all_goals exact ⟨j + 1, by omega, ⟨_, rfl, by exact own_cu (e.trans hA2.symm) rfl, rfl, rfl, int_eq (by omega), trivial⟩, by omega⟩
  · obtain rfl : j = B.length := by omega
    rw [List.take_length]
    clear hb
    repeat' (first | refine Two.mk (fun _ => ?_) (fun _ => ?_) | refine goA ?_ | (refine neA ?_; first | refine nxA ?_ | refine Done.ret (.cell inferInstance rfl rfl .nil) (.sh .nil) ?_ rfl) | fail)
    all_goals first | rfl | (exfalso; omega)
def sqZ (n : Nat) : List (List Int) := List.replicate n (List.replicate n 0)
theorem own_LLz {id : Nat} {ds : List D} {A : List (List Int)} {v : AV} (h : v = .own id (.sl true 1 ds)) (e : ds = LL A) : v = AV.own id (.sl true 1 (LL A)) := by rw [h, e]
theorem own_overZ {id : Nat} {A A' : List (List Int)} {k : Nat} {m : List Int} (e : A.set k m = A') : AV.own id (.sl true 1 (D.over (LL A) k [.sl true 1 (ints m)])) = AV.own id (.sl true 1 (LL A')) := by
  rw [show D.over (LL A) k [.sl true 1 (ints m)] = LL (A.set k m) by simp only [D.over, LL, List.map_set], e]
theorem squareZ_c (n : Nat) (hn : n ≤ 1000) : CallA Tryz.prog 114 [aI n] [rLL (sqZ n)] [] := by
  unfold sqZ
  have hset : ∀ j, j < n → (List.replicate j (List.replicate n (0 : Int)) ++ List.replicate (n - j) []).set j (List.replicate n 0) = List.replicate (j + 1) (List.replicate n 0) ++ List.replicate (n - (j + 1)) [] := fun j hj => by
    rw [List.set_append_right _ _ (by simp), List.length_replicate, Nat.sub_self, show n - j = (n - (j + 1)) + 1 by omega, List.replicate_succ, List.set_cons_zero, List.replicate_succ', List.append_assoc]
    rfl
  refine callA_of _ Tryz.func114 rfl Tryz.ntmps114 solid_any ?_
  repeat' (first | refine Two.mk (fun _ => ?_) (fun _ => ?_) | refine goA ?_ | (refine neA ?_; first | refine nxA ?_ | refine Done.ret (.one res_any .nil) (.sh .nil) ?_ rfl) | fail)
  refine WpA.loop_slots2 (fun j i3 => [(0, vQJ n), (3, .own i3 (.sl true 1 (LL (List.replicate j (List.replicate n (0 : Int)) ++ List.replicate (n - j) [])))), (8, vQJ n), (9, vQJ j)]) (fun j => j ≤ n) (fun j => n - j) 0 _ (by omega) ⟨rfl, by exact own_LLz rfl (by simp [LL, ints]), int_eq (by simp), rfl, trivial⟩ ?_
  intro j i3 s nx hj
  have hl : (List.replicate j (List.replicate n (0 : Int)) ++ List.replicate (n - j) []).length = n := by simp; omega
  by_cases hlt : j < n
  · have e := hset j hlt
    rw [show ∀ A : List (List Int), A.set j (List.replicate n 0) = A.set (j * 1) (List.replicate ((n : Int)).toNat 0) from fun A => by rw [Nat.mul_one]; rfl] at e
    generalize List.replicate j (List.replicate n (0 : Int)) ++ List.replicate (n - j) [] = A at *
    repeat' (first | refine Two.mk (fun _ => ?_) (fun _ => ?_) | refine goA ?_ | (refine neA ?_; first | refine nxA ?_ | refine Done.ret (.one res_any .nil) (.sh .nil) ?_ rfl) | fail)
    all_goals try (exfalso; omega)
    exact ⟨j + 1, by omega, ⟨_, rfl, by exact own_overZ e, rfl, int_eq (by omega), trivial⟩, by omega⟩
  · have ej : j = n := by omega
    subst ej
    have e : List.replicate j (List.replicate j (0 : Int)) ++ List.replicate (j - j) [] = List.replicate j (List.replicate j 0) := by simp
    rw [e] at *
    repeat' (first | refine Two.mk (fun _ => ?_) (fun _ => ?_) | refine goA ?_ | (refine neA ?_; first | refine nxA ?_ | refine Done.ret (.one res_any .nil) (.sh .nil) ?_ rfl) | fail)
    all_goals first | rfl | (exfalso; omega)
end Go.Proofs.YtinenidbgmddhaaGreat
