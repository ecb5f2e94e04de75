/- Contracts of what the fundamental cycle is made of. No condition. -/
import Derived.Test.YtmgmpnhlehonmaaGreatLGzA
import Derived.Test.YtmgmpnhlehonmaaGreatLZcL
import Derived.Test.YtmgmpnhlehonmaaGreatLZcE
import Derived.Test.YtmgmpnhlehonmaaGreatLCuB
import Derived.Test.YtmgmpnhlehonmaaGreatLGrD
set_option linter.unusedVariables false
set_option linter.unusedSimpArgs false
namespace Go.Proofs.YtmgmpnhlehonmaaGreat
set_option maxRecDepth 100000
set_option maxHeartbeats 20000000
open Go.Pv
open Go.ChangeShapes Go.WideShapes Go.ChangeAt Go.RowKit
attribute [local irreducible] RunU WpA Step CallG CallNG Done DoneN
instance fnOk40 : FnOk Tryz.prog 40 := ⟨_, Tryz.func40, rfl, by decide⟩
instance fnOk41 : FnOk Tryz.prog 41 := ⟨_, Tryz.func41, rfl, by decide⟩
instance fnOk43 : FnOk Tryz.prog 43 := ⟨_, Tryz.func43, rfl, by decide⟩
instance fnOk44 : FnOk Tryz.prog 44 := ⟨_, Tryz.func44, rfl, by decide⟩
instance fnOk45 : FnOk Tryz.prog 45 := ⟨_, Tryz.func45, rfl, by decide⟩
instance fnOk46 : FnOk Tryz.prog 46 := ⟨_, Tryz.func46, rfl, by decide⟩
instance fnOk47 : FnOk Tryz.prog 47 := ⟨_, Tryz.func47, rfl, by decide⟩
instance fnOk109 : FnOk Tryz.prog 109 := ⟨_, Tryz.func109, rfl, by decide⟩
instance fnOk49 : FnOk Tryz.prog 49 := ⟨_, Tryz.func49, rfl, by decide⟩
instance fnOk110 : FnOk Tryz.prog 110 := ⟨_, Tryz.func110, rfl, by decide⟩
instance fnOk50 : FnOk Tryz.prog 50 := ⟨_, Tryz.func50, rfl, by decide⟩
instance fnOk111 : FnOk Tryz.prog 111 := ⟨_, Tryz.func111, rfl, by decide⟩
instance fnOk113 : FnOk Tryz.prog 113 := ⟨_, Tryz.func113, rfl, by decide⟩
instance fnOk53 : FnOk Tryz.prog 53 := ⟨_, Tryz.func53, rfl, by decide⟩
instance fnOk54 : FnOk Tryz.prog 54 := ⟨_, Tryz.func54, rfl, by decide⟩
attribute [local irreducible] IsCl decIsCl
theorem implGC_c (P S W : List Int) (h : IsCl P S W) : CallA Tryz.prog 40 [aCl P S W] [rGr (wtTo P S P.length P.length) (edTo P S P.length P.length), rI 0] [] := by
 have hlen := h.cl.len
 have hI := implIsCl_c P S W (by omega) (by have := h.cl.lS; omega) (by have := h.cl.lW; omega)
 rw [decide_eq_true h] at hI
 have hG := graphOf_c P S W h.cl
 refine cA_ _ Tryz.func40 rfl Tryz.ntmps40 sO_ ?_
 repeat' (first | (refine Two.mk ?_ ?_ <;> intro _ <;> try (exfalso; omega)) | (guard_target =~ CallN_; first | refine RunU.cons (sC_ (hI) (.sh .nil) (.shAgg rfl gA_ .nil) rfl) ?_ | refine RunU.cons (sC_ (hG) (.sh .nil) (.shAgg rfl gA_ .nil) rfl) ?_) | refine goA ?_ | (refine neA ?_; first | refine nxA ?_ | refine Done.ret (.cell inferInstance rfl rfl (.one rA_ .nil)) (.sh .nil) ?_ rfl) | fail)
 all_goals first | rfl | (exfalso; simp_all; done)
theorem implGCn_c (P S W : List Int) (hP : P.length ≤ 1000000) (hS : S.length ≤ 1000000) (hW : W.length ≤ 1000000) (h : ¬ IsCl P S W) : CallA Tryz.prog 40 [aCl P S W] [rGr [] [], rI 1] [] := by
 have hI := implIsCl_c P S W (by omega) (by omega) (by omega)
 rw [decide_eq_false h] at hI
 refine cA_ _ Tryz.func40 rfl Tryz.ntmps40 sO_ ?_
 repeat' (first | (refine Two.mk ?_ ?_ <;> intro _ <;> try (exfalso; omega)) | (guard_target =~ CallN_; first | refine RunU.cons (sC_ (hI) (.sh .nil) (.shAgg rfl gA_ .nil) rfl) ?_) | refine goA ?_ | (refine neA ?_; first | refine nxA ?_ | refine Done.ret (.cell inferInstance rfl rfl (.one rA_ .nil)) (.sh .nil) ?_ rfl) | fail)
 all_goals first | rfl | (exfalso; simp_all; done)
theorem specGC_c (P S W : List Int) (h : IsCl P S W) : CallA Tryz.prog 41 [aCl P S W] [rGr (wtTo P S P.length P.length) (edTo P S P.length P.length), rI 0] [] := by
 have hlen := h.cl.len
 have hI := specIsCl_c P S W (by omega) (by have := h.cl.lS; omega) (by have := h.cl.lW; omega)
 rw [decide_eq_true h] at hI
 have hG := specGraph_c P S W h.cl
 refine cA_ _ Tryz.func41 rfl Tryz.ntmps41 sO_ ?_
 repeat' (first | (refine Two.mk ?_ ?_ <;> intro _ <;> try (exfalso; omega)) | (guard_target =~ CallN_; first | refine RunU.cons (sC_ (hI) (.sh .nil) (.shAgg rfl gA_ .nil) rfl) ?_ | refine RunU.cons (sC_ (hG) (.sh .nil) (.shAgg rfl gA_ .nil) rfl) ?_) | refine goA ?_ | (refine neA ?_; first | refine nxA ?_ | refine Done.ret (.cell inferInstance rfl rfl (.one rA_ .nil)) (.sh .nil) ?_ rfl) | fail)
 all_goals first | rfl | (exfalso; simp_all; done)
theorem specGCn_c (P S W : List Int) (hP : P.length ≤ 1000000) (hS : S.length ≤ 1000000) (hW : W.length ≤ 1000000) (h : ¬ IsCl P S W) : CallA Tryz.prog 41 [aCl P S W] [rGr [] [], rI 1] [] := by
 have hI := specIsCl_c P S W (by omega) (by omega) (by omega)
 rw [decide_eq_false h] at hI
 refine cA_ _ Tryz.func41 rfl Tryz.ntmps41 sO_ ?_
 repeat' (first | (refine Two.mk ?_ ?_ <;> intro _ <;> try (exfalso; omega)) | (guard_target =~ CallN_; first | refine RunU.cons (sC_ (hI) (.sh .nil) (.shAgg rfl gA_ .nil) rfl) ?_) | refine goA ?_ | (refine neA ?_; first | refine nxA ?_ | refine Done.ret (.cell inferInstance rfl rfl (.one rA_ .nil)) (.sh .nil) ?_ rfl) | fail)
 all_goals first | rfl | (exfalso; simp_all; done)
abbrev euC (P S W : List Int) : List Int := euJ (vaTo (edTo P S P.length P.length) P.length) (exTo P S W W.length) P.length
theorem implEN_c (P S W : List Int) (h : IsCl P S W) : CallA Tryz.prog 43 [aCl P S W] [rL (euC P S W), rI 0] [] := by
 have hlen := h.cl.len
 have hI := implIsCl_c P S W (by omega) (by have := h.cl.lS; omega) (by have := h.cl.lW; omega)
 rw [decide_eq_true h] at hI
 have hG := implEu_c P S W h.cl
 unfold euC
 generalize euJ (vaTo (edTo P S P.length P.length) P.length) (exTo P S W W.length) P.length = X at *
 refine cA_ _ Tryz.func43 rfl Tryz.ntmps43 sO_ ?_
 repeat' (first | (refine Two.mk ?_ ?_ <;> intro _ <;> try (exfalso; omega)) | (guard_target =~ CallN_; first | refine RunU.cons (sC_ (hI) (.sh .nil) (.shAgg rfl gA_ .nil) rfl) ?_ | refine RunU.cons (sC_ (hG) (.sh .nil) (.shAgg rfl gA_ .nil) rfl) ?_) | refine goA ?_ | (refine neA ?_; first | refine nxA ?_ | refine Done.ret (.one rA_ (.one rA_ .nil)) (.sh .nil) ?_ rfl) | fail)
 all_goals first | rfl | (exfalso; simp_all; done)
theorem implENn_c (P S W : List Int) (hP : P.length ≤ 1000000) (hS : S.length ≤ 1000000) (hW : W.length ≤ 1000000) (h : ¬ IsCl P S W) : CallA Tryz.prog 43 [aCl P S W] [rL [], rI 1] [] := by
 have hI := implIsCl_c P S W (by omega) (by omega) (by omega)
 rw [decide_eq_false h] at hI
 refine cA_ _ Tryz.func43 rfl Tryz.ntmps43 sO_ ?_
 repeat' (first | (refine Two.mk ?_ ?_ <;> intro _ <;> try (exfalso; omega)) | (guard_target =~ CallN_; first | refine RunU.cons (sC_ (hI) (.sh .nil) (.shAgg rfl gA_ .nil) rfl) ?_) | refine goA ?_ | (refine neA ?_; first | refine nxA ?_ | refine Done.ret (.one rA_ (.one rA_ .nil)) (.sh .nil) ?_ rfl) | fail)
 all_goals first | rfl | (exfalso; simp_all; done)
theorem specEN_c (P S W : List Int) (h : IsCl P S W) : CallA Tryz.prog 44 [aCl P S W] [rL (euC P S W), rI 0] [] := by
 have hlen := h.cl.len
 have hI := specIsCl_c P S W (by omega) (by have := h.cl.lS; omega) (by have := h.cl.lW; omega)
 rw [decide_eq_true h] at hI
 have hG := specEu_c P S W h.cl
 unfold euC
 generalize euJ (vaTo (edTo P S P.length P.length) P.length) (exTo P S W W.length) P.length = X at *
 refine cA_ _ Tryz.func44 rfl Tryz.ntmps44 sO_ ?_
 repeat' (first | (refine Two.mk ?_ ?_ <;> intro _ <;> try (exfalso; omega)) | (guard_target =~ CallN_; first | refine RunU.cons (sC_ (hI) (.sh .nil) (.shAgg rfl gA_ .nil) rfl) ?_ | refine RunU.cons (sC_ (hG) (.sh .nil) (.shAgg rfl gA_ .nil) rfl) ?_) | refine goA ?_ | (refine neA ?_; first | refine nxA ?_ | refine Done.ret (.one rA_ (.one rA_ .nil)) (.sh .nil) ?_ rfl) | fail)
 all_goals first | rfl | (exfalso; simp_all; done)
theorem specENn_c (P S W : List Int) (hP : P.length ≤ 1000000) (hS : S.length ≤ 1000000) (hW : W.length ≤ 1000000) (h : ¬ IsCl P S W) : CallA Tryz.prog 44 [aCl P S W] [rL [], rI 1] [] := by
 have hI := specIsCl_c P S W (by omega) (by omega) (by omega)
 rw [decide_eq_false h] at hI
 refine cA_ _ Tryz.func44 rfl Tryz.ntmps44 sO_ ?_
 repeat' (first | (refine Two.mk ?_ ?_ <;> intro _ <;> try (exfalso; omega)) | (guard_target =~ CallN_; first | refine RunU.cons (sC_ (hI) (.sh .nil) (.shAgg rfl gA_ .nil) rfl) ?_) | refine goA ?_ | (refine neA ?_; first | refine nxA ?_ | refine Done.ret (.one rA_ (.one rA_ .nil)) (.sh .nil) ?_ rfl) | fail)
 all_goals first | rfl | (exfalso; simp_all; done)
theorem implEM_c (P S W : List Int) (h : IsCl P S W) : CallA Tryz.prog 45 [aCl P S W] [rLL (mtM P S P.length P.length), rI 0] [] := by
 have hlen := h.cl.len
 have hI := implIsCl_c P S W (by omega) (by have := h.cl.lS; omega) (by have := h.cl.lW; omega)
 rw [decide_eq_true h] at hI
 have hG := excMat_c P S W h.cl
 generalize mtM P S P.length P.length = X at *
 refine cA_ _ Tryz.func45 rfl Tryz.ntmps45 sO_ ?_
 repeat' (first | (refine Two.mk ?_ ?_ <;> intro _ <;> try (exfalso; omega)) | (guard_target =~ CallN_; first | refine RunU.cons (sC_ (hI) (.sh .nil) (.shAgg rfl gA_ .nil) rfl) ?_ | refine RunU.cons (sC_ (hG) (.sh .nil) (.shAgg rfl gA_ .nil) rfl) ?_) | refine goA ?_ | (refine neA ?_; first | refine nxA ?_ | refine Done.ret (.one rA_ (.one rA_ .nil)) (.sh .nil) ?_ rfl) | fail)
 all_goals first | rfl | (exfalso; simp_all; done)
theorem implCOr_c (P S W : List Int) (h : IsCl P S W) : CallA Tryz.prog 46 [aCl P S W] [rL (orTo P S W W.length), rI 0] [] := by
 have hlen := h.cl.len
 have hI := implIsCl_c P S W (by omega) (by have := h.cl.lS; omega) (by have := h.cl.lW; omega)
 rw [decide_eq_true h] at hI
 have hG := implOr_c P S W h.cl
 generalize orTo P S W W.length = X at *
 refine cA_ _ Tryz.func46 rfl Tryz.ntmps46 sO_ ?_
 repeat' (first | (refine Two.mk ?_ ?_ <;> intro _ <;> try (exfalso; omega)) | (guard_target =~ CallN_; first | refine RunU.cons (sC_ (hI) (.sh .nil) (.shAgg rfl gA_ .nil) rfl) ?_ | refine RunU.cons (sC_ (hG) (.sh .nil) (.shAgg rfl gA_ .nil) rfl) ?_) | refine goA ?_ | (refine neA ?_; first | refine nxA ?_ | refine Done.ret (.one rA_ (.one rA_ .nil)) (.sh .nil) ?_ rfl) | fail)
 all_goals first | rfl | (exfalso; simp_all; done)
theorem implEO_c (P S W : List Int) (h : IsCl P S W) : CallA Tryz.prog 47 [aCl P S W] [rL (exTo P S W W.length), rI 0] [] := by
 have hlen := h.cl.len
 have hI := implIsCl_c P S W (by omega) (by have := h.cl.lS; omega) (by have := h.cl.lW; omega)
 rw [decide_eq_true h] at hI
 have hG := implEx_c P S W h.cl
 generalize exTo P S W W.length = X at *
 refine cA_ _ Tryz.func47 rfl Tryz.ntmps47 sO_ ?_
 repeat' (first | (refine Two.mk ?_ ?_ <;> intro _ <;> try (exfalso; omega)) | (guard_target =~ CallN_; first | refine RunU.cons (sC_ (hI) (.sh .nil) (.shAgg rfl gA_ .nil) rfl) ?_ | refine RunU.cons (sC_ (hG) (.sh .nil) (.shAgg rfl gA_ .nil) rfl) ?_) | refine goA ?_ | (refine neA ?_; first | refine nxA ?_ | refine Done.ret (.one rA_ (.one rA_ .nil)) (.sh .nil) ?_ rfl) | fail)
 all_goals first | rfl | (exfalso; simp_all; done)
def ptF (p : Int → Int → Bool) (V X : List Int) : Nat → List Int
 | 0 => []
 | j + 1 => if p (V.getD (j * 1) 0) (X.getD (j * 1) 0) = true then ptF p V X j ++ [(j : Int)] else ptF p V X j
theorem ptF_len (p : Int → Int → Bool) (V X : List Int) : ∀ j, (ptF p V X j).length ≤ j
 | 0 => Nat.le_refl _
 | j + 1 => by
  have := ptF_len p V X j
  rw [ptF]
  split
  ·rw [List.length_append, List.length_singleton]; omega
  ·omega
theorem ptF_mem {p : Int → Int → Bool} {V X : List Int} {i : Nat} : ∀ n, (i : Int) ∈ ptF p V X n ↔ i < n ∧ p (V.getD i 0) (X.getD i 0) = true
 | 0 => by simp [ptF]
 | n + 1 => by
  have ih := ptF_mem (p := p) (V := V) (X := X) (i := i) n
  rw [ptF, Nat.mul_one]
  by_cases e : i = n
  ·subst e
   by_cases hp : p (V.getD i 0) (X.getD i 0) = true
   ·rw [if_pos hp, List.mem_append, List.mem_singleton]
    exact ⟨fun _ => ⟨by omega, hp⟩, fun _ => .inr rfl⟩
   ·rw [if_neg hp, ih]
    constructor
    ·intro q; omega
    ·intro q; exact absurd q.2 hp
  ·have : (i : Int) ≠ n := by omega
   split
   ·rw [List.mem_append, List.mem_singleton, ih]
    constructor
    ·rintro (q | q)
     ·exact ⟨by omega, q.2⟩
     ·exact absurd q this
    ·intro q; exact .inl ⟨by omega, q.2⟩
   ·rw [ih]
    constructor
    ·intro q; exact ⟨by omega, q.2⟩
    ·intro q; exact ⟨by omega, q.2⟩
abbrev vaC (P S : List Int) : List Int := vaTo (edTo P S P.length P.length) P.length
theorem ptsWhere_c (P S W : List Int) (h : IsCl P S W) (K : FuncId) [hK : FnOk Tryz.prog K] (p : Int → Int → Bool) (hp : ∀ v e : Int, (0 ≤ v ∧ v ≤ 2000) → (-10000000 ≤ e ∧ e ≤ 10000000) → CallA Tryz.prog K [aI v, aI e] [rB (p v e)] []) :
  CallA Tryz.prog 109 [aCl P S W, .sh (.one (.fn K []))] [rL (ptF p (vaC P S) (exTo P S W W.length) P.length), rI 0] [] := by
 have hl := h.cl.len
 have hW := h.cl.lW
 have hI := implIsCl_c P S W (by omega) (by have := h.cl.lS; omega) (by omega)
 rw [decide_eq_true h] at hI
 have hG := graphOf_c P S W h.cl
 have hX := implEx_c P S W h.cl
 have vl := vaTo_len (edTo P S P.length P.length) P.length
 have xl := exTo_len P S W W.length
 have hwl := wtTo_len P S P.length P.length
 have hel := edTo_len P S P.length P.length
 have hin : P.length * P.length ≤ 24 * 24 := Nat.mul_le_mul hl.2 hl.2
 have hV := valencesZ_c (wtTo P S P.length P.length) (edTo P S P.length P.length) (by omega) (by omega) (by rw [hwl]; exact edTo_good P S P.length)
 rw [hwl] at hV
 have vb : ∀ i, i < P.length → 0 ≤ (vaTo (edTo P S P.length P.length) P.length).getD i 0 ∧ (vaTo (edTo P S P.length P.length) P.length).getD i 0 ≤ 2000 := fun i hi => by
  have := near_few (edTo P S P.length P.length) i
  simp [vaTo, List.getD_eq_getElem?_getD, hi]
  omega
 have xb := exTo_in h.cl (j := W.length) (by omega)
 unfold vaC
 clear h hel hin
 generalize vaTo (edTo P S P.length P.length) P.length = Va at *
 generalize exTo P S W W.length = X at *
 generalize wtTo P S P.length P.length = wt at *
 generalize edTo P S P.length P.length = E at *
 refine cA_ _ Tryz.func109 rfl Tryz.ntmps109 sO_ ?_
 repeat' (first | (refine Two.mk ?_ ?_ <;> intro _ <;> try (exfalso; omega)) | (guard_target =~ AtN 11; refine RunU.cons (sC_ (hI) (.sh .nil) (.shAgg rfl gA_ .nil) rfl) ?_) | (guard_target =~ CallN_; first | refine RunU.cons (sC_ (hG) (.sh .nil) (.shAgg rfl gA_ .nil) rfl) ?_ | refine RunU.cons (sC_ (hX) (.sh .nil) (.shAgg rfl gA_ .nil) rfl) ?_ | refine RunU.cons (sC_ (hV) (.sh .nil) (.shAgg rfl gA_ .nil) rfl) ?_) | refine goA ?_ | (refine neA ?_; first | refine nxA ?_ | refine Done.ret (.one rA_ (.one rA_ .nil)) (.sh (.sh .nil)) ?_ rfl) | fail)
 all_goals try (exfalso; simp_all; done)
 clear hG hV hX hI
 refine WpA.loop_ids3 (fun j i6 i7 i18 => [(1, .c (.fn K [])), (6, .own i6 (.sl true 1 (ints (ptF p Va X j)))), (7, .own i7 (.sl true 1 (ints X))), (18, .own i18 (.sl true 1 (ints Va))), (19, vJ P.length), (20, vJ j)]) (fun j => j ≤ P.length) (fun j => P.length - j) 0 _ _ _ (by omega) ⟨rfl, by exact own_ints (l := []) rfl, xR_, xR_, int_eq (by omega), rfl, trivial⟩ ?_
 intro j i6 i7 i18 s nx hj
 have hpl := ptF_len p Va X j
 by_cases hlt : j < P.length
 ·have b1 := vb (j * 1) (by omega)
  have b2 := xb (j * 1)
  have hc := hp (Va.getD (j * 1) 0) (X.getD (j * 1) 0) b1 (by omega)
  have hst : ptF p Va X (j + 1) = if p (Va.getD (j * 1) 0) (X.getD (j * 1) 0) = true then ptF p Va X j ++ [(j : Int)] else ptF p Va X j := rfl
  clear vb xb hp
  generalize p (Va.getD (j * 1) 0) (X.getD (j * 1) 0) = q at *
  cases q with
  | true =>
   rw [if_pos rfl] at hst
   repeat' (first | (refine Two.mk ?_ ?_ <;> intro _) | (guard_target =~ CallN_; first | refine RunU.cons (step_call_clo (hc) xR_ xR_ (.sh (.sh .nil)) (.sh wS_ (.sh wS_ .nil)) rfl) ?_) | refine goA ?_ | (refine neA ?_; first | refine nxA ?_ | refine Done.ret (.one rA_ (.one rA_ .nil)) (.sh (.sh .nil)) ?_ rfl) | fail)
   all_goals try (exfalso; simp_all; done)
   all_goals try (exfalso; omega)
   all_goals exact ⟨j + 1, by omega, ⟨_, _, _, rfl, by exact own_ints hst.symm, rfl, rfl, rfl, int_eq (by omega), trivial⟩, by omega⟩
  | false =>
   rw [if_neg (by simp)] at hst
   repeat' (first | (refine Two.mk ?_ ?_ <;> intro _) | (guard_target =~ CallN_; first | refine RunU.cons (step_call_clo (hc) xR_ xR_ (.sh (.sh .nil)) (.sh wS_ (.sh wS_ .nil)) rfl) ?_) | refine goA ?_ | (refine neA ?_; first | refine nxA ?_ | refine Done.ret (.one rA_ (.one rA_ .nil)) (.sh (.sh .nil)) ?_ rfl) | fail)
   all_goals try (exfalso; simp_all; done)
   all_goals try (exfalso; omega)
   all_goals exact ⟨j + 1, by omega, ⟨_, _, _, rfl, by exact own_ints hst.symm, rfl, rfl, rfl, int_eq (by omega), trivial⟩, by omega⟩
 ·obtain rfl : j = P.length := by omega
  clear vb xb hp
  repeat' (first | (refine Two.mk ?_ ?_ <;> intro _) | refine goA ?_ | (refine neA ?_; first | refine nxA ?_ | refine Done.ret (.one rA_ (.one rA_ .nil)) (.sh (.sh .nil)) ?_ rfl) | fail)
  all_goals first | rfl | (exfalso; omega)
def isRup (v e : Int) : Bool := decide (v + e ≥ 3)
def isDead (v e : Int) : Bool := decide (v = 1) && decide (e = 0)
theorem isRup_c (v e : Int) (hv : 0 ≤ v ∧ v ≤ 2000) (he : -10000000 ≤ e ∧ e ≤ 10000000) : CallA Tryz.prog 110 [aI v, aI e] [rB (isRup v e)] [] := by
 refine cA_ _ Tryz.func110 rfl Tryz.ntmps110 sO_ ?_
 repeat' (first | (refine Two.mk ?_ ?_ <;> intro _) | refine goA ?_ | (refine neA ?_; first | refine nxA ?_ | refine Done.ret (.one rA_ .nil) (.sh (.sh .nil)) ?_ rfl) | fail)
 all_goals rfl
theorem isDead_c (v e : Int) (hv : 0 ≤ v ∧ v ≤ 2000) (he : -10000000 ≤ e ∧ e ≤ 10000000) : CallA Tryz.prog 111 [aI v, aI e] [rB (isDead v e)] [] := by
 unfold isDead
 by_cases h : v = 1
 ·by_cases h2 : e = 0
  ·rw [decide_eq_true h, decide_eq_true h2]
   refine cA_ _ Tryz.func111 rfl Tryz.ntmps111 sO_ ?_
   repeat' (first | (refine Two.mk ?_ ?_ <;> intro _ <;> try (exfalso; omega)) | refine goA ?_ | (guard_target =~ IsG; first | refine psA ?_ | refine gdA ?_) | (refine neA ?_; first | refine nxA ?_ | refine Done.ret (.one rA_ .nil) (.sh (.sh .nil)) ?_ rfl) | fail)
   all_goals first | rfl | (simp [h2]; done)
  ·rw [decide_eq_true h, decide_eq_false h2]
   refine cA_ _ Tryz.func111 rfl Tryz.ntmps111 sO_ ?_
   repeat' (first | (refine Two.mk ?_ ?_ <;> intro _ <;> try (exfalso; omega)) | refine goA ?_ | (guard_target =~ IsG; first | refine psA ?_ | refine gdA ?_) | (refine neA ?_; first | refine nxA ?_ | refine Done.ret (.one rA_ .nil) (.sh (.sh .nil)) ?_ rfl) | fail)
   all_goals first | rfl | (simp [h2]; done)
 ·rw [decide_eq_false h]
  refine cA_ _ Tryz.func111 rfl Tryz.ntmps111 sO_ ?_
  repeat' (first | (refine Two.mk ?_ ?_ <;> intro _ <;> try (exfalso; omega)) | refine goA ?_ | (guard_target =~ IsG; first | refine psA ?_ | refine gdA ?_) | (refine neA ?_; first | refine nxA ?_ | refine Done.ret (.one rA_ .nil) (.sh (.sh .nil)) ?_ rfl) | fail)
  all_goals first | rfl | (simp [h]; done)
theorem implRup_c (P S W : List Int) (h : IsCl P S W) : CallA Tryz.prog 49 [aCl P S W] [rL (ptF isRup (vaC P S) (exTo P S W W.length) P.length), rI 0] [] := by
 have hP := ptsWhere_c P S W h 110 isRup isRup_c
 generalize ptF isRup (vaC P S) (exTo P S W W.length) P.length = L at *
 refine cA_ _ Tryz.func49 rfl Tryz.ntmps49 sO_ ?_
 repeat' (first | (refine Two.mk ?_ ?_ <;> intro _) | (guard_target =~ CallN_; first | refine RunU.cons (sC_ (hP) (.sh (.sh .nil)) (.shAgg rfl gA_ (.sh wS_ .nil)) rfl) ?_) | refine goA ?_ | (refine neA ?_; first | refine nxA ?_ | refine Done.ret (.one rA_ (.one rA_ .nil)) (.sh .nil) ?_ rfl) | fail)
 all_goals rfl
theorem implDead_c (P S W : List Int) (h : IsCl P S W) : CallA Tryz.prog 50 [aCl P S W] [rL (ptF isDead (vaC P S) (exTo P S W W.length) P.length), rI 0] [] := by
 have hP := ptsWhere_c P S W h 111 isDead isDead_c
 generalize ptF isDead (vaC P S) (exTo P S W W.length) P.length = L at *
 refine cA_ _ Tryz.func50 rfl Tryz.ntmps50 sO_ ?_
 repeat' (first | (refine Two.mk ?_ ?_ <;> intro _) | (guard_target =~ CallN_; first | refine RunU.cons (sC_ (hP) (.sh (.sh .nil)) (.shAgg rfl gA_ (.sh wS_ .nil)) rfl) ?_) | refine goA ?_ | (refine neA ?_; first | refine nxA ?_ | refine Done.ret (.one rA_ (.one rA_ .nil)) (.sh .nil) ?_ rfl) | fail)
 all_goals rfl
theorem isPoint_c (P S W : List Int) (i : Int) (hP : P.length ≤ 1000000) : CallA Tryz.prog 113 [aCl P S W, aI i] [rB (decide (0 ≤ i ∧ i < P.length))] [] := by
 have hR := inRange_c i 0 ((P.length : Int) - 1)
 rw [show decide (0 ≤ i ∧ i ≤ (P.length : Int) - 1) = decide (0 ≤ i ∧ i < P.length) from decide_eq_decide.2 (by omega)] at hR
 refine cA_ _ Tryz.func113 rfl Tryz.ntmps113 sO_ ?_
 repeat' (first | (refine Two.mk ?_ ?_ <;> intro _) | (guard_target =~ CallN_; first | refine RunU.cons (sC_ (hR) (.sh (.sh (.sh .nil))) (.sh wS_ (.sh wS_ (.sh wS_ .nil))) rfl) ?_) | refine goA ?_ | (refine neA ?_; first | refine nxA ?_ | refine Done.ret (.one rA_ .nil) (.sh (.sh .nil)) ?_ rfl) | fail)
 all_goals rfl
noncomputable def atR (P S W : List Int) (i : Int) : (List Int × List (List Int)) × Int := if IsCl P S W then if 0 ≤ i ∧ i < P.length then ((bvW (wtTo P S P.length P.length) i, bvE (wtTo P S P.length P.length) (edTo P S P.length P.length) i), 0) else (([], []), 2) else (([], []), 1)
theorem implAt_c (P S W : List Int) (i : Int) (hP : P.length ≤ 1000000) (hS : S.length ≤ 1000000) (hW : W.length ≤ 1000000) : CallA Tryz.prog 53 [aCl P S W, aI i] [rGr (atR P S W i).1.1 (atR P S W i).1.2, rI (atR P S W i).2] [] := by
 have hI := implIsCl_c P S W (by omega) (by omega) (by omega)
 have hQ := isPoint_c P S W i hP
 unfold atR
 by_cases h : IsCl P S W
 ·rw [decide_eq_true h] at hI
  rw [if_pos h]
  by_cases hi : 0 ≤ i ∧ i < P.length
  ·rw [decide_eq_true hi] at hQ
   rw [if_pos hi]
   have hG := graphOf_c P S W h.cl
   have hcg := cl_graph h.cl
   have hl := h.cl.len
   have hwl := wtTo_len P S P.length P.length
   have hwb : -1000 < (wtTo P S P.length P.length).getD i.toNat 0 := by
    rw [wtTo_at]
    split
    ·have := mtTo_in P S i.toNat i.toNat P.length; omega
    ·omega
   obtain ⟨v, rfl⟩ : ∃ v : Nat, i = v := ⟨i.toNat, by omega⟩
   have hB := blowUp_c (wtTo P S P.length P.length) (edTo P S P.length P.length) v hcg.gr (by omega)
   have hbr := bvR_0 (v := (v : Int)) hcg.gr (by omega) (show RoomV _ _ from ⟨by omega, hwb⟩)
   rw [hbr] at hB
   dsimp only at hB ⊢
   clear hcg hbr hwb h
   generalize wtTo P S P.length P.length = w at *
   generalize edTo P S P.length P.length = E at *
   refine cA_ _ Tryz.func53 rfl Tryz.ntmps53 sO_ ?_
   repeat' (first | (refine Two.mk ?_ ?_ <;> intro _ <;> try (exfalso; omega)) | (guard_target =~ CallN_; first | refine RunU.cons (sC_ (hI) (.sh .nil) (.shAgg rfl gA_ .nil) rfl) ?_ | refine RunU.cons (sC_ (hQ) (.sh (.sh .nil)) (.shAgg rfl gA_ (.sh wS_ .nil)) rfl) ?_ | refine RunU.cons (sC_ (hG) (.sh .nil) (.shAgg rfl gA_ .nil) rfl) ?_ | refine RunU.cons (sC_ (hB) (.sh (.sh .nil)) (.shAgg rfl gA_ (.sh wS_ .nil)) rfl) ?_) | refine goA ?_ | (refine neA ?_; first | refine nxA ?_ | refine Done.ret (.cell inferInstance rfl rfl (.one rA_ .nil)) (.sh (.sh .nil)) ?_ rfl) | fail)
   all_goals first | rfl | (exfalso; simp_all; done)
  ·rw [decide_eq_false hi] at hQ
   rw [if_neg hi]
   clear h
   refine cA_ _ Tryz.func53 rfl Tryz.ntmps53 sO_ ?_
   repeat' (first | (refine Two.mk ?_ ?_ <;> intro _ <;> try (exfalso; omega)) | (guard_target =~ CallN_; first | refine RunU.cons (sC_ (hI) (.sh .nil) (.shAgg rfl gA_ .nil) rfl) ?_ | refine RunU.cons (sC_ (hQ) (.sh (.sh .nil)) (.shAgg rfl gA_ (.sh wS_ .nil)) rfl) ?_) | refine goA ?_ | (refine neA ?_; first | refine nxA ?_ | refine Done.ret (.cell inferInstance rfl rfl (.one rA_ .nil)) (.sh (.sh .nil)) ?_ rfl) | fail)
   all_goals first | rfl | (exfalso; simp_all; done)
 ·rw [decide_eq_false h] at hI
  rw [if_neg h]
  clear h
  refine cA_ _ Tryz.func53 rfl Tryz.ntmps53 sO_ ?_
  repeat' (first | (refine Two.mk ?_ ?_ <;> intro _ <;> try (exfalso; omega)) | (guard_target =~ CallN_; first | refine RunU.cons (sC_ (hI) (.sh .nil) (.shAgg rfl gA_ .nil) rfl) ?_) | refine goA ?_ | (refine neA ?_; first | refine nxA ?_ | refine Done.ret (.cell inferInstance rfl rfl (.one rA_ .nil)) (.sh (.sh .nil)) ?_ rfl) | fail)
  all_goals first | rfl | (exfalso; simp_all; done)
theorem specAt_c (P S W : List Int) (i : Int) (hP : P.length ≤ 1000000) (hS : S.length ≤ 1000000) (hW : W.length ≤ 1000000) : CallA Tryz.prog 54 [aCl P S W, aI i] [rGr (atR P S W i).1.1 (atR P S W i).1.2, rI (atR P S W i).2] [] := by
 have hI := specIsCl_c P S W (by omega) (by omega) (by omega)
 unfold atR
 by_cases h : IsCl P S W
 ·rw [decide_eq_true h] at hI
  rw [if_pos h]
  have hlW := h.cl.lW
  have hl := h.cl.len
  have hQ := l01In_c i 0 ((W.length : Int) - 1)
  by_cases hi : 0 ≤ i ∧ i < P.length
  ·rw [decide_eq_true (show 0 ≤ i ∧ i ≤ (W.length : Int) - 1 by omega)] at hQ
   rw [if_pos hi]
   have hG := specGraph_c P S W h.cl
   have hcg := (cl_graph h.cl).gr
   have hfew := hcg.few
   have hwl := wtTo_len P S P.length P.length
   have hB := blowV_c (wtTo P S P.length P.length) (edTo P S P.length P.length) i (by omega) (by omega) (fun r hr => by
    obtain ⟨a, b, e, _⟩ := good_edge hcg.2.2.1 r hr
    rw [e]; rfl) (by omega) (fun t => by
    rw [wtTo_at]
    split
    ·have := mtTo_in P S t t P.length; omega
    ·omega)
   clear hcg h
   generalize bvW (wtTo P S P.length P.length) i = w2 at *
   generalize bvE (wtTo P S P.length P.length) (edTo P S P.length P.length) i = E2 at *
   generalize wtTo P S P.length P.length = w at *
   generalize edTo P S P.length P.length = E at *
   refine cA_ _ Tryz.func54 rfl Tryz.ntmps54 sO_ ?_
   repeat' (first | (refine Two.mk ?_ ?_ <;> intro _ <;> try (exfalso; omega)) | (guard_target =~ CallN_; first | refine RunU.cons (sC_ (hI) (.sh .nil) (.shAgg rfl gA_ .nil) rfl) ?_ | refine RunU.cons (sC_ (hQ) (.sh (.sh (.sh .nil))) (.sh wS_ (.sh wS_ (.sh wS_ .nil))) rfl) ?_ | refine RunU.cons (sC_ (hG) (.sh .nil) (.shAgg rfl gA_ .nil) rfl) ?_ | refine RunU.cons (sC_ (hB) (.sh (.sh .nil)) (.shAgg rfl gA_ (.sh wS_ .nil)) rfl) ?_) | refine goA ?_ | (refine neA ?_; first | refine nxA ?_ | refine Done.ret (.cell inferInstance rfl rfl (.one rA_ .nil)) (.sh (.sh .nil)) ?_ rfl) | fail)
   all_goals first | rfl | (exfalso; simp_all; done)
  ·rw [decide_eq_false (show ¬ (0 ≤ i ∧ i ≤ (W.length : Int) - 1) by omega)] at hQ
   rw [if_neg hi]
   clear h
   refine cA_ _ Tryz.func54 rfl Tryz.ntmps54 sO_ ?_
   repeat' (first | (refine Two.mk ?_ ?_ <;> intro _ <;> try (exfalso; omega)) | (guard_target =~ CallN_; first | refine RunU.cons (sC_ (hI) (.sh .nil) (.shAgg rfl gA_ .nil) rfl) ?_ | refine RunU.cons (sC_ (hQ) (.sh (.sh (.sh .nil))) (.sh wS_ (.sh wS_ (.sh wS_ .nil))) rfl) ?_) | refine goA ?_ | (refine neA ?_; first | refine nxA ?_ | refine Done.ret (.cell inferInstance rfl rfl (.one rA_ .nil)) (.sh (.sh .nil)) ?_ rfl) | fail)
   all_goals first | rfl | (exfalso; simp_all; done)
 ·rw [decide_eq_false h] at hI
  rw [if_neg h]
  clear h
  refine cA_ _ Tryz.func54 rfl Tryz.ntmps54 sO_ ?_
  repeat' (first | (refine Two.mk ?_ ?_ <;> intro _ <;> try (exfalso; omega)) | (guard_target =~ CallN_; first | refine RunU.cons (sC_ (hI) (.sh .nil) (.shAgg rfl gA_ .nil) rfl) ?_) | refine goA ?_ | (refine neA ?_; first | refine nxA ?_ | refine Done.ret (.cell inferInstance rfl rfl (.one rA_ .nil)) (.sh (.sh .nil)) ?_ rfl) | fail)
  all_goals first | rfl | (exfalso; simp_all; done)
end Go.Proofs.YtmgmpnhlehonmaaGreat
namespace Go.Proofs.YtmgmpnhlehonmaaGreat
set_option maxHeartbeats 20000000
open Go.Pv
open Go.ChangeShapes Go.WideShapes Go.ChangeAt Go.RowKit
attribute [local irreducible] RunU WpA Step CallG CallNG Done DoneN
def vecF (n : Nat) (f : Nat → Int) : List Int := (List.range n).map f
theorem vecF_len (n : Nat) (f : Nat → Int) : (vecF n f).length = n := by simp [vecF]
theorem vecF_at {n i : Nat} (f : Nat → Int) (h : i < n) : (vecF n f).getD i 0 = f i := by simp [vecF, List.getD, h]
def rowT (w : List Int) (E : List (List Int)) (i j : Nat) : List Int := vecF w.length fun k => if k = i then w.getD i 0 else if (k : Int) ∈ (near E i).take j then 1 else 0
def mtx (w : List Int) (E : List (List Int)) (i : Nat) : List (List Int) := (List.range i).map fun a : Nat => rowT w E a (near E a).length
theorem mtx_len (w : List Int) (E : List (List Int)) (i : Nat) : (mtx w E i).length = i := by simp [mtx]
theorem mtx_at (w : List Int) (E : List (List Int)) {i n : Nat} (h : i < n) : (mtx w E n).getD i [] = rowT w E i (near E i).length := by simp [mtx, List.getD, h]
end Go.Proofs.YtmgmpnhlehonmaaGreat
