/- Drawn graphs: blowing up vertices and edges. No condition. -/
import Derived.Test.YtmgmpnhlehonmaaGreatLGrP
import Derived.Test.YtmgmpnhlehonmaaGreatLPvT
import Derived.Test.YtmgmpnhlehonmaaGreatLPwD
import Derived.Test.YtmgmpnhlehonmaaGreatLPvX
import Derived.Test.YtmgmpnhlehonmaaGreatLSpA
import Derived.Test.YtmgmpnhlehonmaaGreatLGrC
import Derived.Test.YtmgmpnhlehonmaaGreatLGrD
set_option linter.unusedVariables false
set_option linter.unusedSimpArgs false
namespace Go.Pv
open Go.RowKit
section
variable {P : Program} {n : NN} {nid nx : Nat} {st : Nat → AV} {f : Fr} {X : Nat → Prop} {a : Act} {w : World} {ρ : Nat → Rho} {L : Nat → List Nat}
theorem RDs_of_rv {F : Nat → Prop} {w : World} (A : List RV) (k : Nat) (r : Rho) : RDs F w (vals A) k r (A.map RV.v) [] := RDs_of_vals (g0 := RV.v) RV.one A k r
class NilTy (P : Program) (T : TypeId) : Prop where
 out : ∃ e i z, P.underlying T = some (.slice e) ∧ P.info? e = some i ∧ i.zero = some z ∧ z.cells = #[.slice none 0 0]
theorem NilTy.of {T e : TypeId} {z : Value} (hu : P.underlying T = some (.slice e)) (hi : (P.info? e).map (·.zero) = some (some z)) (hz : z.cells = #[.slice none 0 0]) : NilTy P T := by
 obtain ⟨i, h1, h2⟩ := Option.map_eq_some_iff.1 hi
 exact ⟨e, i, z, hu, h1, h2, hz⟩
end
end Go.Pv
namespace Go.Pv
open Go.RowKit
section
variable {P : Program} {n : NN} {nid nx : Nat} {st : Nat → AV} {f : Fr} {X : Nat → Prop} {a : Act} {w : World} {ρ : Nat → Rho} {L : Nat → List Nat}
theorem Row.tail {v : Value} {us : List Value} {L0 : List Nat} (h : Row w v 1 us L0) {l : Nat} (hl : l ≤ us.length) :
  ∃ b cap, v = .slice b us.length cap ∧ us.length ≤ cap ∧ Row w (.slice (if cap = l then b else b.map (·.add (l * 1))) (us.length - l) (cap - l)) 1 (us.drop l) L0 := by
 rcases h with ⟨rfl, rfl, rfl⟩ | ⟨g, o, n0, cap, cur, e, rfl, k2, k3, k4, k5, k6, k7, rfl⟩
 ·have hl0 : l = 0 := by simpa using hl
  subst hl0
  exact ⟨none, 0, rfl, Nat.le_refl _, .inl ⟨by simp, by simp, rfl⟩⟩
 ·have hn : n0 = us.length := by omega
  subst hn
  refine ⟨_, cap, rfl, k4, ?_⟩
  by_cases hc : cap = l
  ·rw [if_pos hc]
   have hul : us.drop l = [] := List.drop_eq_nil_of_le (by omega)
   rw [hul]
   exact .inr ⟨g, o, us.length - l, cap - l, cur, e, rfl, k2, by simp; omega, by omega, by omega, by omega, by rw [show us.length - l = 0 by omega]; simp, rfl⟩
  ·rw [if_neg hc]
   refine .inr ⟨g, o + l, us.length - l, cap - l, cur, e, by simp only [Option.map_some, addr_off, Nat.mul_one], k2, by simp, by omega, by omega, by omega, ?_, rfl⟩
   have e1 : us.drop l = ((cur.toList.drop o).take (us.length * 1)).drop l := by rw [k7]
   rw [e1, List.drop_take, List.drop_drop, Nat.mul_one, Nat.mul_one]
theorem step_tail {d l : Nat} {j : Int} {k : IntKind} {s xlo : Operand} {T : TypeId} {li : List Int} {rd : List Nat} {up : List (Nat × AV)} {ty pos aft g} [hT : SliceTy P T 1] (h : Give st s rd (.sl true 1 (ints li)) up) (hlo : Lit st xlo (.int k j)) (hj : j = (l : Int)) (hl : l ≤ li.length) (hd : n d = true) :
  Step P n ⟨some d, .slice T s (some xlo) none none, ty, pos, aft, g⟩ nid st (rd ++ rdOf xlo) (up ++ [(d, .own nid (.sl true 1 (ints (li.drop l))))]) := by
 intro X st' hs hX f a w hn hrep K Q hK
 obtain ⟨ρ, L, hr⟩ := hrep
 subst hn
 have ek := Lit.eval hr (hlo.agree fun s hs' => hs s (by simp [hs']))
 obtain ⟨r, L', M1, hm, hv1⟩ := hr.toM.give (h.agree fun s hs' => hs s (by simp [hs']))
 rw [puts_append] at hK
 rw [List.nil_append] at hm
 simp only [RD] at hv1
 obtain ⟨e0, us, L0, L3, rfl, h1, h5⟩ := hv1
 obtain ⟨rfl, rfl⟩ := (rds_ints li _ _ _ _).1 h5
 have hlen : (iv li).length = li.length := by simp
 obtain ⟨b, cap, ev, hcap, hrow⟩ := h1.tail (l := l) (by rw [hlen]; exact hl)
 rw [hlen] at ev hcap hrow
 have hrun := run_slice_cut (P := P) (T := T) w b li.length cap l li.length (some (a.eval xlo)) none (.inr ⟨k, by rw [ek, hj]⟩) (.inl ⟨rfl, rfl⟩) hl (Nat.le_refl _) hcap
 refine wV_ (u := .slice (if cap = l then b else b.map (·.add (l * 1))) (li.length - l) (cap - l)) (w' := w) ?_ (hm.put_root hK hd hX _ w [] (by simp) (Keep.refl w) (fun _ => .slice (if cap = l then b else b.map (·.add (l * 1))) (li.length - l) (cap - l)) L0 ?_ ?_ (fun g hg => ⟨(hm.bound g (by simp [hg])).1, .inl (by simp [hg])⟩))
 ·simp only [execOp, ev, Option.map_some, Option.map_none, Sem.run_bind, hrun, Result.andThen_ok, Sem.run_pure]
 ·simp only [RD]
  exact ⟨trivial, _, L0, [], by simp, hrow, (rds_ints _ _ _ _ _).2 ⟨by simp [List.map_drop], rfl⟩⟩
 ·have := hm.nd
  simpa using this
end
end Go.Pv
namespace Go.Pv
open Go.RowKit
section
variable {P : Program} {n : NN} {nid nx : Nat} {st : Nat → AV} {Q : Exit → (Nat → AV) → Nat → Prop} {f : Fr} {X : Nat → Prop} {a : Act} {w : World} {ρ : Nat → Rho} {L : Nat → List Nat} {M : List Nat}
theorem step_load_S {d t x id off : Nat} {path : List Nat} {T : TypeId} {dd d1 : D} {cs : List D} {u : Value} {r : List Int} {ty pos aft g} [OneTy P T] (h : st t = .ptr x id path off) (hx : st x = .own id dd) (hn' : dd.nav path = some d1) (hk : d1.kids = some cs) (hc : cs[off]? = some (.lit u)) (hm : (u, r) ∈ n.S) (hd : n d = true) :
  Step P n ⟨some d, .load T (.tmp t), ty, pos, aft, g⟩ nid st [t, x] [(d, .c (.sl false 1 (ints r)))] := by
 intro X st' hs hX f a w hn hrep K Q hK
 obtain ⟨ρ, L, hr⟩ := hrep
 subst hn
 have hrow := hr.rows (u, r) hm
 have ht := hr.slots t
 have hids := hr.ids t
 rw [(hs t (by simp)).trans h] at ht hids
 simp only [SR] at ht
 obtain ⟨_, b, hb, e0⟩ := ht
 obtain ⟨g0, o0, us, L1, hb', hg, hL1, h5, h6, _⟩ := hr.partKids ((hs x (by simp)).trans hx) hn' hk (by rintro rfl; simp at hc)
 rw [hb] at hb'
 simp only [Option.some.injEq] at hb'
 subst hb'
 obtain ⟨u2, A, M, B, hu, e, h7, _⟩ := RDs.at cs 0 _ us L1 h5 off (.lit u) hc
 simp only [RD] at h7
 obtain ⟨rfl, _, _⟩ := h7
 refine wV_ (u := u2) (w' := w) ?_ (hr.done_light hK hd _ w (Keep.refl w) ?_ (fun i hi => by simp [AV.ids] at hi))
 ·have e1 : a.eval (.tmp t) = _ := e0
  rw [addr_off] at e1
  simp only [execOp, e1, Sem.run_bind, run_load_one w _ u2 (h6 off u2 hu), Result.andThen_ok, Sem.run_pure]
 ·simp only [SR, RD]
  exact ⟨trivial, fun _ => undef, trivial, _, hrow, (rds_ints r _ _ _ _).2 ⟨rfl, rfl⟩⟩
end
end Go.Pv
namespace Go.Proofs.YtmgmpnhlehonmaaGreat
set_option maxRecDepth 100000
set_option maxHeartbeats 20000000
open Go.Pv
open Go.ChangeShapes Go.WideShapes Go.ChangeAt Go.RowKit
attribute [local irreducible] RunU WpA Step CallG CallNG Done DoneN
instance fnOk145 : FnOk Tryz.prog 145 := ⟨_, Tryz.func145, rfl, by decide⟩
instance fnOk162 : FnOk Tryz.prog 162 := ⟨_, Tryz.func162, rfl, by decide⟩
abbrev vG (x : Int) : AV := .c (.lit (.int .i64 x))
theorem lessR_c (a b : List Int) (ha : a.length ≤ 1000000000) (hb : b.length ≤ 1000000000) : CallA Tryz.prog 145 [aL a, aL b] [rB (decide (lexC a b < 0))] [] := by
 refine cA_ _ Tryz.func145 rfl Tryz.ntmps145 sO_ ?_
 repeat' (first | (refine Two.mk ?_ ?_ <;> intro _) | refine goA ?_ | (guard_target =~ IsG; first | refine psA ?_ | refine gdA ?_) | (refine neA ?_; first | refine nxA ?_ | refine Done.ret (.one rA_ .nil) (.sh (.sh .nil)) ?_ rfl) | fail)
 refine WpA.loop_slots (ι := Nat) (fun j => [(0, .c (.sl false 1 (ints a))), (1, .c (.sl false 1 (ints b))), (5, vG j)]) (fun j => (j ≤ a.length ∧ j ≤ b.length) ∧ lexC a b = lexC (a.drop j) (b.drop j)) (fun j => a.length - j) 0 ⟨by omega, rfl⟩ ⟨rfl, rfl, rfl, trivial⟩ ?_
 rintro j s nx ⟨hj, hj2⟩
 by_cases h : j < a.length ∧ j < b.length
 ·have e1 := lexC_drop h.1 h.2
  rw [← hj2, ← Nat.mul_one j] at e1
  by_cases he : a.getD (j * 1) 0 = b.getD (j * 1) 0
  ·rw [if_neg (by omega), if_neg (by omega), Nat.mul_one] at e1
   clear hj2
   repeat' (first | (refine Two.mk ?_ ?_ <;> intro _) | refine goA ?_ | (guard_target =~ IsG; first | refine psA ?_ | refine gdA ?_) | (refine neA ?_; first | refine nxA ?_ | refine Done.ret (.one rA_ .nil) (.sh (.sh .nil)) ?_ rfl) | fail)
   all_goals try (exfalso; omega)
   all_goals exact ⟨j + 1, ⟨by omega, e1⟩, ⟨rfl, rfl, int_eq (by omega), trivial⟩, by omega⟩
  ·clear hj2
   by_cases hlt : a.getD (j * 1) 0 < b.getD (j * 1) 0
   ·rw [if_pos hlt] at e1
    rw [e1, decide_eq_true (by omega)]
    clear e1
    repeat' (first | (refine Two.mk ?_ ?_ <;> intro _) | refine goA ?_ | (guard_target =~ IsG; first | refine psA ?_ | refine gdA ?_) | (refine neA ?_; first | refine nxA ?_ | refine Done.ret (.one rA_ .nil) (.sh (.sh .nil)) ?_ rfl) | fail)
    all_goals first | (exfalso; omega) | (simp; simpa using hlt)
   ·rw [if_neg hlt, if_pos (by omega)] at e1
    rw [e1, decide_eq_false (by omega)]
    clear e1
    repeat' (first | (refine Two.mk ?_ ?_ <;> intro _) | refine goA ?_ | (guard_target =~ IsG; first | refine psA ?_ | refine gdA ?_) | (refine neA ?_; first | refine nxA ?_ | refine Done.ret (.one rA_ .nil) (.sh (.sh .nil)) ?_ rfl) | fail)
    all_goals first | (exfalso; omega) | (simp; simpa using hlt)
 ·have e2 : lexC a b < 0 ↔ a.length < b.length := by
   rw [hj2]
   by_cases h1 : j < a.length
   ·have : b.drop j = [] := List.drop_eq_nil_of_le (by omega)
    rw [this, List.drop_eq_getElem_cons h1]
    simp only [lexC]
    omega
   ·have : a.drop j = [] := List.drop_eq_nil_of_le (by omega)
    rw [this]
    by_cases h2 : j < b.length
    ·rw [List.drop_eq_getElem_cons h2]
     simp only [lexC]
     omega
    ·have : b.drop j = [] := List.drop_eq_nil_of_le (by omega)
     rw [this]
     simp only [lexC]
     omega
  rw [show decide (lexC a b < 0) = decide (a.length < b.length) from decide_eq_decide.2 e2]
  clear hj2 e2
  repeat' (first | (refine Two.mk ?_ ?_ <;> intro _) | refine goA ?_ | (guard_target =~ IsG; first | refine psA ?_ | refine gdA ?_) | (refine neA ?_; first | refine nxA ?_ | refine Done.ret (.one rA_ .nil) (.sh (.sh .nil)) ?_ rfl) | fail)
  all_goals first | (exfalso; omega) | simp
def atLx (r : List Int) : List (List Int) → Nat
 | [] => 0
 | q :: t => if lexC q r < 0 then atLx r t + 1 else 0
theorem atLx_le (r : List Int) : ∀ O, atLx r O ≤ O.length
 | [] => Nat.le_refl _
 | q :: t => by
  have := atLx_le r t
  simp only [atLx, List.length_cons]
  split <;> omega
theorem atLx_low (r : List Int) : ∀ (O : List (List Int)) (i : Nat), i < atLx r O → lexC (O.getD i []) r < 0
 | [], i, h => by simp [atLx] at h
 | q :: t, i, h => by
  simp only [atLx] at h
  split at h
  ·rename_i h1
   cases i with
   | zero => simpa using h1
   | succ i => simpa using atLx_low r t i (by omega)
  ·omega
theorem atLx_not (r : List Int) : ∀ (O : List (List Int)), atLx r O < O.length → ¬ lexC (O.getD (atLx r O) []) r < 0
 | [], h => by simp at h
 | q :: t, h => by
  by_cases h1 : lexC q r < 0
  ·have e : atLx r (q :: t) = atLx r t + 1 := by rw [atLx, if_pos h1]
   rw [e] at h ⊢
   simpa using atLx_not r t (by simpa using h)
  ·have e : atLx r (q :: t) = 0 := by rw [atLx, if_neg h1]
   rw [e]
   simpa using h1
def insL (r : List Int) (O : List (List Int)) : List (List Int) := O.take (atLx r O) ++ r :: O.drop (atLx r O)
def srtL (E : List (List Int)) : Nat → List (List Int)
 | 0 => []
 | j + 1 => insL (E.getD j []) (srtL E j)
def insV (q : RV) (O : List RV) : List RV := O.take (atLx q.r (rowsOf O)) ++ q :: O.drop (atLx q.r (rowsOf O))
def srtV (A : List RV) : Nat → List RV
 | 0 => []
 | j + 1 => insV (A.getD j rv0) (srtV A j)
theorem insV_rows (q : RV) (O : List RV) : rowsOf (insV q O) = insL q.r (rowsOf O) := by
 unfold insV insL
 generalize atLx q.r (rowsOf O) = k
 simp [rowsOf, List.map_take, List.map_drop]
theorem srtV_rows (A : List RV) : ∀ j, rowsOf (srtV A j) = srtL (rowsOf A) j
 | 0 => rfl
 | j + 1 => by rw [srtV, insV_rows, srtL, srtV_rows A j, rowsOf_at]
theorem insV_perm (q : RV) (O : List RV) : (insV q O).Perm (q :: O) := by
 unfold insV
 refine List.perm_middle.trans ?_
 rw [List.take_append_drop]
theorem insL_perm (r : List Int) (O : List (List Int)) : (insL r O).Perm (r :: O) := by
 unfold insL
 refine List.perm_middle.trans ?_
 rw [List.take_append_drop]
theorem srtV_perm {A : List RV} : ∀ j, j ≤ A.length → (srtV A j).Perm (A.take j)
 | 0, _ => by simp [srtV]
 | j + 1, h => by
  rw [srtV, List.take_add_one, List.getElem?_eq_getElem (by omega), show A.getD j rv0 = A[j] by simp [List.getD, show j < A.length by omega]]
  refine (insV_perm _ _).trans (((srtV_perm j (by omega)).cons _).trans ?_)
  exact (List.perm_append_singleton _ _).symm
theorem srtL_perm {E : List (List Int)} : ∀ j, j ≤ E.length → (srtL E j).Perm (E.take j)
 | 0, _ => by simp [srtL]
 | j + 1, h => by
  rw [srtL, List.take_add_one, List.getElem?_eq_getElem (by omega), show E.getD j [] = E[j] by simp [List.getD, show j < E.length by omega]]
  refine (insL_perm _ _).trans (((srtL_perm j (by omega)).cons _).trans ?_)
  exact (List.perm_append_singleton _ _).symm
theorem srtL_all (E : List (List Int)) : (srtL E E.length).Perm E := by
 have := srtL_perm (E := E) E.length (Nat.le_refl _)
 rwa [List.take_length] at this
def firstDs : Code → Option Nat
 | .seq a _ => firstDs a
 | .region _ ops _ => (ops[0]?).bind (·.dst)
 | _ => none
theorem WpA.openedSC {P : Program} {n : NN} {st : Nat → AV} {nx : Nat} {Q : Exit → (Nat → AV) → Nat → Prop} {c : Code} {id1 : Nat} {R1 : List (List Int)} (t x : Nat) (ht : firstDs c = some t) (hn0 : n.S = []) (hx : st x = .own id1 (.sl true 1 (LL R1)))
  (h : ∀ A : List RV, rowsOf A = R1 →
   WpA P (n.rows A) c (put st x (.own nx (.sl true 1 (vals A)))) (nx + 1)
    (fun e s k => ∃ z j B B', B.Perm B' ∧ B'.Sublist A ∧ HoldsV s z j B ∧ Q e (put (litsOf s) z (.own k (.sl true 1 (LL (rowsOf B))))) (k + 1))) : WpA P n c st nx Q := WpA.openedS hn0 hx h
theorem vals_plain (A : List RV) (a b : Nat) : ∀ c ∈ ((vals A).drop a).take b, c.plain = true := fun c hc => by
 obtain ⟨v, _, rfl⟩ := List.mem_map.1 (List.mem_of_mem_drop (List.mem_of_mem_take hc))
 rfl
theorem rowsOf_len' (A : List RV) : (rowsOf A).length = A.length := by simp [rowsOf]
theorem own_cells {id : Nat} {cs : List D} {B : List RV} (h : cs = vals B) : AV.own id (.sl true 1 cs) = AV.own id (.sl true 1 (vals B)) := by rw [h]
theorem sorted_c (E : List (List Int)) (hl : E.length ≤ 100000) (hr : ∀ r ∈ E, r.length ≤ 1000000) : CallA Tryz.prog 162 [mLL E] [rLL (srtL E E.length)] [] := by
 have hres : ∀ A : List RV, rowsOf A = E → rowsOf (srtV A A.length) = srtL E E.length := fun A hA => by rw [srtV_rows, hA, ← hA, rowsOf_len']
 generalize srtL E E.length = F at *
 refine cA_ _ Tryz.func162 rfl Tryz.ntmps162 sO_ ?_
 repeat' (first | (refine Two.mk ?_ ?_ <;> intro _) | (guard_target =~ IsW; first | refine WpA.openedSC 7 0 rfl rfl rfl ?_) | refine goA ?_ | (guard_target =~ IsG; first | refine psA ?_ | refine gdA ?_) | (refine neA ?_; first | refine nxA ?_ | refine Done.ret (.one rA_ .nil) (.mv .nil) ?_ rfl) | fail)
 intro A hA
 have hres := hres A hA
 have hlen : A.length = E.length := by rw [← hA, rowsOf_len']
 have hr2 : ∀ q ∈ A, q.r.length ≤ 1000000 := fun q hq => hr q.r (by rw [← hA]; exact List.mem_map.2 ⟨q, hq, rfl⟩)
 clear hr
 repeat' (first | (refine Two.mk ?_ ?_ <;> intro _) | refine goA ?_ | (guard_target =~ IsG; first | refine psA ?_ | refine gdA ?_) | (refine neA ?_; first | refine nxA ?_ | refine Done.ret (.one rA_ .nil) (.mv .nil) ?_ rfl) | fail)
 refine WpA.loop_ids2 (fun j i0 i3 => [(0, .own i0 (.sl true 1 (vals A))), (3, .own i3 (.sl true 1 (vals (srtV A j)))), (4, vG j)]) (fun j => j ≤ A.length) (fun j => A.length - j) 0 _ _ (by omega) ⟨xR_, xR_, rfl, trivial⟩ ?_
 intro j i0 i3 s nx hj
 have hp := srtV_perm j hj
 have hOl : (srtV A j).length = j := by rw [hp.length_eq, List.length_take]; omega
 have hOm : ∀ q ∈ srtV A j, q ∈ A := fun q hq => List.mem_of_mem_take (hp.mem_iff.1 hq)
 by_cases hlt : j < A.length
 ·have hqe : A.getD (j * 1) rv0 = A.getD j rv0 := by rw [Nat.mul_one]
  have hmA : A.getD (j * 1) rv0 ∈ A := by
   rw [hqe, show A.getD j rv0 = A[j] by simp [List.getD, hlt]]
   exact List.getElem_mem hlt
  have hvA : (A.map fun q => D.lit q.v)[j * 1]? = some (.lit (A.getD (j * 1) rv0).v) := vals_get (by omega)
  have hst : srtV A (j + 1) = insV (A.getD (j * 1) rv0) (srtV A j) := by rw [hqe]; rfl
  have hrA := hr2 _ hmA
  have h1 := atLx_le (A.getD (j * 1) rv0).r (rowsOf (srtV A j))
  have h2 := atLx_low (A.getD (j * 1) rv0).r (rowsOf (srtV A j))
  have h3 := atLx_not (A.getD (j * 1) rv0).r (rowsOf (srtV A j))
  unfold insV at hst
  rw [rowsOf_len'] at h1 h3
  have hrO : ∀ q ∈ srtV A j, q.r.length ≤ 1000000 := fun q hq => hr2 q (hOm q hq)
  generalize A.getD (j * 1) rv0 = qa at *
  generalize srtV A j = O at *
  generalize atLx qa.r (rowsOf O) = k at *
  clear hres hr2 hp hqe
  repeat' (first | (refine Two.mk ?_ ?_ <;> intro _) | refine goA ?_ | (guard_target =~ IsG; first | refine psA ?_ | refine gdA ?_) | (refine neA ?_; first | refine nxA ?_ | refine Done.ret (.one rA_ .nil) (.mv .nil) ?_ rfl) | fail)
  all_goals try (exfalso; omega)
  refine WpA.loop_slots (ι := Nat) (fun i => [(0, .own i0 (.sl true 1 (vals A))), (3, .own i3 (.sl true 1 (vals O))), (4, vG j), (5, vG i)]) (fun i => i ≤ k) (fun i => k - i) 0 (by omega) ⟨rfl, rfl, rfl, rfl, trivial⟩ ?_
  intro i s nx hi
  by_cases hin : i < O.length
  ·have hoe : O.getD (i * 1) rv0 = O.getD i rv0 := by rw [Nat.mul_one]
   have hmO : O.getD (i * 1) rv0 ∈ O := by
    rw [hoe, show O.getD i rv0 = O[i] by simp [List.getD, hin]]
    exact List.getElem_mem hin
   have hvO : (O.map fun q => D.lit q.v)[i * 1]? = some (.lit (O.getD (i * 1) rv0).v) := vals_get (by omega)
   have hL := lessR_c (O.getD (i * 1) rv0).r qa.r (by have := hrO _ hmO; omega) (by omega)
   have hmO2 := hOm _ hmO
   by_cases hik : i < k
   ·have h2 := h2 i hik
    rw [rowsOf_at, ← hoe] at h2
    rw [decide_eq_true h2] at hL
    generalize O.getD (i * 1) rv0 = qo at *
    clear h3 hrO hOm hst
    repeat' (first | (refine Two.mk ?_ ?_ <;> intro _) | (guard_target =~ CallN_; first | refine RunU.cons (sC_ (hL) (.sh (.sh .nil)) (.sh wS_ (.sh wS_ .nil)) rfl) ?_) | (guard_target =~ IsN; first | refine RunU.cons (step_load_S (d := 22) rfl rfl rfl rfl hvO (mem_rows hmO2) rfl) ?_ | refine RunU.cons (step_load_S (d := 26) rfl rfl rfl rfl hvA (mem_rows hmA) rfl) ?_) | refine goA ?_ | (guard_target =~ IsG; first | refine psA ?_ | (guard_target =~ CallS_; first | refine RunU.doit rfl rfl (sC_ (hL) (.sh (.sh .nil)) (.sh wS_ (.sh wS_ .nil)) rfl) ?_) | refine RunU.doit rfl rfl (step_load_S (d := 22) rfl rfl rfl rfl hvO (mem_rows hmO2) rfl) ?_ | refine RunU.doit rfl rfl (step_load_S (d := 26) rfl rfl rfl rfl hvA (mem_rows hmA) rfl) ?_ | refine gdA ?_) | (refine neA ?_; first | refine nxA ?_ | refine Done.ret (.one rA_ .nil) (.mv .nil) ?_ rfl) | fail)
    all_goals try (exfalso; omega)
    all_goals exact ⟨i + 1, by omega, ⟨rfl, rfl, rfl, int_eq (by omega), trivial⟩, by omega⟩
   ·obtain rfl : i = k := by omega
    have h3 := h3 hin
    rw [rowsOf_at, ← hoe] at h3
    rw [decide_eq_false h3] at hL
    generalize O.getD (i * 1) rv0 = qo at *
    clear h2 hrO hOm
    repeat' (first | (refine Two.mk ?_ ?_ <;> intro _) | (guard_target =~ CallN_; first | refine RunU.cons (sC_ (hL) (.sh (.sh .nil)) (.sh wS_ (.sh wS_ .nil)) rfl) ?_) | (guard_target =~ IsN; first | refine RunU.cons (step_load_S (d := 22) rfl rfl rfl rfl hvO (mem_rows hmO2) rfl) ?_ | refine RunU.cons (step_load_S (d := 26) rfl rfl rfl rfl hvA (mem_rows hmA) rfl) ?_ | refine RunU.cons (step_load (d := 34) rfl rfl rfl rfl hvA rfl) ?_ | refine RunU.cons (step_append_view (by exact .own rfl) (by exact .sub rfl rfl rfl) (vals_plain O _ _) (by simp; omega) rfl) ?_ | refine RunU.cons (step_append_give (by exact .own rfl) (by exact .als rfl rfl) (by simp; omega) rfl) ?_) | refine goA ?_ | (guard_target =~ IsG; first | refine psA ?_ | (guard_target =~ CallS_; first | refine RunU.doit rfl rfl (sC_ (hL) (.sh (.sh .nil)) (.sh wS_ (.sh wS_ .nil)) rfl) ?_) | refine RunU.doit rfl rfl (step_load_S (d := 22) rfl rfl rfl rfl hvO (mem_rows hmO2) rfl) ?_ | refine RunU.doit rfl rfl (step_load_S (d := 26) rfl rfl rfl rfl hvA (mem_rows hmA) rfl) ?_ | refine RunU.doit rfl rfl (step_load (d := 34) rfl rfl rfl rfl hvA rfl) ?_ | refine RunU.doit rfl rfl (step_append_view (by exact .own rfl) (by exact .sub rfl rfl rfl) (vals_plain O _ _) (by simp; omega) rfl) ?_ | refine RunU.doit rfl rfl (step_append_give (by exact .own rfl) (by exact .als rfl rfl) (by simp; omega) rfl) ?_ | refine gdA ?_) | (refine neA ?_; first | refine nxA ?_ | refine Done.ret (.one rA_ .nil) (.mv .nil) ?_ rfl) | fail)
    all_goals try (exfalso; omega)
    all_goals exact ⟨j + 1, by omega, ⟨_, _, rfl, by exact own_cells (by rw [hst]; simp [vals, List.map_take, List.map_drop]; exact List.take_of_length_le (by simp)), int_eq (by omega), trivial⟩, by omega⟩
  ·obtain rfl : i = k := by omega
   clear h2 h3 hrO hOm
   repeat' (first | (refine Two.mk ?_ ?_ <;> intro _) | (guard_target =~ IsN; first | refine RunU.cons (step_load (d := 34) rfl rfl rfl rfl hvA rfl) ?_ | refine RunU.cons (step_append_view (by exact .own rfl) (by exact .sub rfl rfl rfl) (vals_plain O _ _) (by simp; omega) rfl) ?_ | refine RunU.cons (step_append_give (by exact .own rfl) (by exact .als rfl rfl) (by simp; omega) rfl) ?_) | refine goA ?_ | (guard_target =~ IsG; first | refine psA ?_ | refine RunU.doit rfl rfl (step_load (d := 34) rfl rfl rfl rfl hvA rfl) ?_ | refine RunU.doit rfl rfl (step_append_view (by exact .own rfl) (by exact .sub rfl rfl rfl) (vals_plain O _ _) (by simp; omega) rfl) ?_ | refine RunU.doit rfl rfl (step_append_give (by exact .own rfl) (by exact .als rfl rfl) (by simp; omega) rfl) ?_ | refine gdA ?_) | (refine neA ?_; first | refine nxA ?_ | refine Done.ret (.one rA_ .nil) (.mv .nil) ?_ rfl) | fail)
   all_goals try (exfalso; omega)
   all_goals exact ⟨j + 1, by omega, ⟨_, _, rfl, by exact own_cells (by rw [hst]; simp [vals, List.map_take, List.map_drop]; exact List.take_of_length_le (by simp)), int_eq (by omega), trivial⟩, by omega⟩
 ·obtain rfl : j = A.length := by omega
  rw [List.take_length] at hp
  clear hr2 hOm
  repeat' (first | (refine Two.mk ?_ ?_ <;> intro _) | refine goA ?_ | (guard_target =~ IsG; first | refine psA ?_ | refine gdA ?_) | (refine neA ?_; first | refine nxA ?_ | refine Done.ret (.one rA_ .nil) (.mv .nil) ?_ rfl) | fail)
  all_goals try (exfalso; omega)
  refine ⟨2, _, _, A, hp, List.Sublist.refl _, .inr ⟨3, rfl, rfl⟩, ?_⟩
  refine Done.ret (.one (.own rfl) .nil) (.mv .nil) ?_ rfl
  rw [hres]
instance fnOk182 : FnOk Tryz.prog 182 := ⟨_, Tryz.func182, rfl, by decide⟩
instance fnOk161 : FnOk Tryz.prog 161 := ⟨_, Tryz.func161, rfl, by decide⟩
instance fnOk115 : FnOk Tryz.prog 115 := ⟨_, Tryz.func115, rfl, by decide⟩
theorem ownSS_c (R : List (List Int)) (hl : R.length ≤ 1000000) (hr : ∀ i, i < R.length → (R.getD i []).length ≤ 1000000) : CallA Tryz.prog 182 [aLL R] [rLL R] [] := by
 refine cA_ _ Tryz.func182 rfl Tryz.ntmps182 sO_ ?_
 repeat' (first | (refine Two.mk ?_ ?_ <;> intro _) | refine goA ?_ | (refine neA ?_; first | refine nxA ?_ | refine Done.ret (.one rA_ .nil) (.sh .nil) ?_ rfl) | fail)
 refine WpA.loop_slots2 (fun j id => [(0, .c (.sl false 1 (LLs R))), (3, .own id (.sl true 1 (LL (R.take j)))), (4, vG j)]) (fun j => j ≤ R.length) (fun j => R.length - j) 0 _ (by omega) ⟨rfl, xR_, rfl, trivial⟩ ?_
 intro j id s nx hj
 have htl : (R.take j).length = j := by rw [List.length_take]; omega
 by_cases hlt : j < R.length
 ·have hC := l01Own_c (R.getD (j * 1) []) (by have := hr (j * 1) (by omega); omega)
  have e : R.take j ++ [R.getD (j * 1) []] = R.take (j + 1) := by
   rw [Nat.mul_one, List.take_add_one, List.getElem?_eq_getElem hlt, List.getD_eq_getElem?_getD, List.getElem?_eq_getElem hlt]; rfl
  clear hr
  repeat' (first | (refine Two.mk ?_ ?_ <;> intro _) | (guard_target =~ CallN_; first | refine RunU.cons (sC_ (hC) (.sh .nil) (.sh wS_ .nil) rfl) ?_) | refine goA ?_ | (refine neA ?_; first | refine nxA ?_ | refine Done.ret (.one rA_ .nil) (.sh .nil) ?_ rfl) | fail)
  all_goals try (exfalso; omega)
  all_goals exact ⟨j + 1, by omega, ⟨_, rfl, by exact own_LL e, int_eq (by omega), trivial⟩, by omega⟩
 ·obtain rfl : j = R.length := by omega
  clear hr
  repeat' (first | (refine Two.mk ?_ ?_ <;> intro _) | refine goA ?_ | (refine neA ?_; first | refine nxA ?_ | refine Done.ret (.one rA_ .nil) (.sh .nil) ?_ rfl) | fail)
  all_goals first | (exfalso; omega) | simp
abbrev rGr (w : List Int) (E : List (List Int)) : V := .agg [.sl true 1 (ints w), .sl true 1 (LL E)]
theorem ownGr_c (w : List Int) (E : List (List Int)) (hw : w.length ≤ 1000000) (hE : E.length ≤ 1000000) (hr : ∀ i, i < E.length → (E.getD i []).length ≤ 1000000) : CallA Tryz.prog 161 [aGr w E] [rGr w E] [] := by
 have h1 := l01Own_c w (by omega)
 have h2 := ownSS_c E hE hr
 clear hr
 refine cA_ _ Tryz.func161 rfl Tryz.ntmps161 sO_ ?_
 repeat' (first | (refine Two.mk ?_ ?_ <;> intro _) | (guard_target =~ AtN 5; refine RunU.cons (sC_ (h1) (.sh .nil) (.sh wS_ .nil) rfl) ?_) | (guard_target =~ AtN 8; refine RunU.cons (sC_ (h2) (.sh .nil) (.sh wS_ .nil) rfl) ?_) | refine goA ?_ | (refine neA ?_; first | refine nxA ?_ | refine Done.ret (.cell inferInstance rfl rfl .nil) (.sh .nil) ?_ rfl) | fail)
 all_goals first | rfl | (exfalso; omega)
def bvW (w : List Int) (v : Int) : List Int := w.set (v.toNat * 1) (w.getD (v.toNat * 1) 0 - 1) ++ [-1]
def bvE (w : List Int) (E : List (List Int)) (v : Int) : List (List Int) := srtL (E ++ [[v, (w.length : Int)]]) (E ++ [[v, (w.length : Int)]]).length
theorem blowV_c (w : List Int) (E : List (List Int)) (v : Int) (hw : w.length ≤ 1000) (hE : E.length ≤ 1000) (hr : ∀ r ∈ E, r.length = 2) (hv : 0 ≤ v ∧ v < w.length) (hb : ∀ i, -1000000 ≤ w.getD i 0 ∧ w.getD i 0 ≤ 1000000) : CallA Tryz.prog 115 [aGr w E, aI v] [rGr (bvW w v) (bvE w E v)] [] := by
 have h1 := ownGr_c w E (by omega) (by omega) (fun i hi => by
  rw [List.getD_eq_getElem?_getD, List.getElem?_eq_getElem hi]
  have := hr _ (List.getElem_mem hi)
  simp only [Option.getD_some]; omega)
 have h2 := sorted_c (E ++ [[v, (w.length : Int)]]) (by simp; omega) (fun r h => by
  rcases List.mem_append.1 h with h | h
  ·have := hr r h; omega
  ·rw [List.mem_singleton] at h; subst h; simp)
 have hb := hb (v.toNat * 1)
 unfold bvW bvE
 clear hr
 refine cA_ _ Tryz.func115 rfl Tryz.ntmps115 sO_ ?_
 repeat' (first | (refine Two.mk ?_ ?_ <;> intro _) | (guard_target =~ CallN_; first | refine RunU.cons (sC_ (h1) (.sh .nil) (.shAgg rfl gA_ .nil) rfl) ?_ | refine RunU.cons (sC_ (h2) (.mv vA_ .nil) (.mv .nil) rfl) ?_) | refine goA ?_ | (refine neA ?_; first | refine nxA ?_ | refine Done.ret (.cell inferInstance rfl rfl .nil) (.sh (.sh .nil)) ?_ rfl) | fail)
 all_goals first | rfl | (exfalso; omega)
def fltE (E : List (List Int)) (r : List Int) : Nat → List (List Int)
 | 0 => []
 | j + 1 => fltE E r j ++ if E.getD j [] = r then [] else [E.getD j []]
def beW (w : List Int) (i k : Int) : List Int := ((w ++ [-1]).set (i.toNat * 1) ((w ++ [-1]).getD (i.toNat * 1) 0 - 1)).set (k.toNat * 1) (((w ++ [-1]).set (i.toNat * 1) ((w ++ [-1]).getD (i.toNat * 1) 0 - 1)).getD (k.toNat * 1) 0 - 1)
def beR (w : List Int) (E : List (List Int)) (i k : Int) : List (List Int) := fltE E [min i k, max i k] E.length ++ [[i, (w.length : Int)], [k, (w.length : Int)]]
def beE (w : List Int) (E : List (List Int)) (i k : Int) : List (List Int) := srtL (beR w E i k) (beR w E i k).length
end Go.Proofs.YtmgmpnhlehonmaaGreat
