/- Clusters, plain: proximity and intersection matrices, and the edges of a cluster's graph. No condition. -/
import Derived.Test.YtmgmpnhlehonmaaGreatLGrP
import Derived.Test.YtmgmpnhlehonmaaGreatLGqD
import Derived.Test.YtmgmpnhlehonmaaGreatLSpA
import Derived.Test.YtmgmpnhlehonmaaGreatLGrB
import Derived.Test.YtmgmpnhlehonmaaGreatLTy
set_option linter.unusedVariables false
set_option linter.unusedSimpArgs false
namespace Go.Proofs.YtmgmpnhlehonmaaGreat
set_option maxHeartbeats 20000000
open Go.Pv
open Go.ChangeShapes Go.WideShapes Go.ChangeAt Go.RowKit
attribute [local irreducible] RunU WpA Step CallG CallNG Done DoneN
instance fnOk108 : FnOk Tryz.prog 108 := ⟨_, Tryz.func108, rfl, by decide⟩
instance fnOk107 : FnOk Tryz.prog 107 := ⟨_, Tryz.func107, rfl, by decide⟩
instance fnOk48 : FnOk Tryz.prog 48 := ⟨_, Tryz.func48, rfl, by decide⟩
theorem step_min {P : Program} {n : NN} {nid : Nat} {st : Nat → AV} {d : Nat} {x y : Operand} {a b : Int} {ts : Array TypeId} {ty pos aft g} (hx : Go.Pv.Lit st x (.int .i64 a)) (hy : Go.Pv.Lit st y (.int .i64 b)) (hd : n d = true) :
  Step P n ⟨some d, .call ⟨.builtin .min, #[x, y], ts⟩, ty, pos, aft, g⟩ nid st (rdOf x ++ rdOf y) [(d, .c (.lit (.int .i64 (if b < a then b else a))))] := by
 have := step_pure (P := P) (n := n) (nid := nid) (st := st) (o := ⟨some d, .call ⟨.builtin .min, #[x, y], ts⟩, ty, pos, aft, g⟩) (d := d) (u := .int .i64 (if b < a then b else a)) [(x, .int .i64 a), (y, .int .i64 b)] rfl hd rfl (by simpa using ⟨hx, hy⟩) (fun ev w hev => by
  have e1 := hev (x, .int .i64 a) (by simp)
  have e2 := hev (y, .int .i64 b) (by simp)
  simp only at e1 e2
  simp [execOp, resolve, invoke, builtin, e1, e2, Builtin.min_, Builtin.min2])
 simpa using this
def minL (l : List Int) : Nat → Int
 | 0 => l.getD 0 0
 | j + 1 => if l.getD (j + 1) 0 < minL l j then l.getD (j + 1) 0 else minL l j
theorem minL_pos {l : List Int} : ∀ j, 0 < minL l j ↔ ∀ i, i ≤ j → 0 < l.getD i 0
 | 0 => by
  rw [minL]
  exact ⟨fun h i hi => by rw [Nat.le_zero.1 hi]; exact h, fun h => h 0 (by omega)⟩
 | j + 1 => by
  have ih := minL_pos (l := l) j
  rw [minL]
  constructor
  ·intro h i hi
   by_cases e : i = j + 1
   ·rw [e]; split at h <;> omega
   ·exact ih.1 (by split at h <;> omega) i (by omega)
  ·intro h
   have h1 := ih.2 fun i hi => h i (by omega)
   have h2 := h (j + 1) (by omega)
   split <;> omega
theorem min_c (l : List Int) (h : 1 ≤ l.length) (hl : l.length ≤ 1000000000) : CallA Tryz.prog 108 [aL l] [rI (minL l (l.length - 1))] [] := by
 refine cA_ _ Tryz.func108 rfl Tryz.ntmps108 sO_ ?_
 repeat' (first | (refine Two.mk ?_ ?_ <;> intro _) | refine goA ?_ | refine nxA ?_ | refine Done.ret (.one rA_ .nil) (.sh .nil) ?_ rfl)
 all_goals try (exfalso; omega)
 refine WpA.loop_slots (ι := Nat) (fun j => [(0, .c (.sl false 1 (ints l))), (3, vGI (minL l j)), (4, vGI ((j : Int) + 1))]) (fun j => j + 1 ≤ l.length) (fun j => l.length - j) 0 (by omega) ⟨rfl, xR_, rfl, trivial⟩ ?_
 intro j s nx hj
 by_cases hlt : j + 1 < l.length
 ·have e : (if l.getD (j * 1 + 1) 0 < minL l j then l.getD (j * 1 + 1) 0 else minL l j) = minL l (j + 1) := by rw [Nat.mul_one]; rfl
  repeat' (first | (refine Two.mk ?_ ?_ <;> intro _) | (guard_target =~ IsN; first | refine RunU.cons (step_min rfl rfl rfl) ?_) | refine goA ?_ | refine nxA ?_ | refine Done.ret (.one rA_ .nil) (.sh .nil) ?_ rfl)
  all_goals try (exfalso; omega)
  exact ⟨j + 1, by omega, ⟨rfl, int_eq (by simp [minL]), int_eq (by omega), trivial⟩, by omega⟩
 ·have ej : j = l.length - 1 := by omega
  subst ej
  repeat' (first | (refine Two.mk ?_ ?_ <;> intro _) | refine goA ?_ | refine nxA ?_ | refine Done.ret (.one rA_ .nil) (.sh .nil) ?_ rfl)
  all_goals try (exfalso; omega)
  all_goals rfl
noncomputable def bdF (w : List Int) (E : List (List Int)) : List Int := if IsGr w E then fR w E else []
noncomputable def bdG (w : List Int) (E : List (List Int)) : List Int := if IsGr w E then gR w E else []
noncomputable def bdC (w : List Int) (E : List (List Int)) : Int := if IsGr w E then if brB w E = true then 0 else 3 else 1
theorem implBD_c (w : List Int) (E : List (List Int)) (hw : w.length ≤ 2000000) (hE : E.length ≤ 2000000) : CallA Tryz.prog 107 [aGr w E] [rL (bdF w E), rL (bdG w E), rI (bdC w E)] [] := by
 have hI := implIsGraph_c w E hw hE
 unfold bdF bdG bdC
 by_cases hg : IsGr w E
 ·rw [if_pos hg, if_pos hg, if_pos hg]
  rw [decide_eq_true hg] at hI
  have hB := branchDet_c w E hg
  have hL := visR_large hg
  unfold fR gR
  by_cases hb : brB w E = true
  ·have ho := (brB_iff w E).1 hb
   rw [if_pos hb, if_pos hb, if_pos hb]
   obtain ⟨e1, e2⟩ := visR_f hg ho
   rw [e1, e2, hL.2 ho] at hB
   generalize fL w E = f at *
   generalize gL w E = g at *
   clear hL ho
   refine cA_ _ Tryz.func107 rfl Tryz.ntmps107 sO_ ?_
   repeat' (first | (refine Two.mk ?_ ?_ <;> intro _) | (guard_target =~ CallN_; first | refine RunU.cons (sC_ (hI) (.sh .nil) (.shAgg rfl gA_ .nil) rfl) ?_ | refine RunU.cons (sC_ (hB) (.sh .nil) (.shAgg rfl gA_ .nil) rfl) ?_) | refine goA ?_ | refine nxA ?_ | refine Done.ret (.one rA_ (.one rA_ (.one rA_ .nil))) (.sh .nil) ?_ rfl)
   all_goals first | rfl | (exfalso; simp_all; done)
  ·have hno : ¬ brOk w E := fun h => hb ((brB_iff w E).2 h)
   have hl : (visR w E w.length).1.large = true := by
    cases h : (visR w E w.length).1.large with
    | true => rfl
    | false => exact absurd (hL.1 h) hno
   rw [if_neg hb, if_neg hb, if_neg hb]
   rw [hl] at hB
   clear hL hno hl
   refine cA_ _ Tryz.func107 rfl Tryz.ntmps107 sO_ ?_
   repeat' (first | (refine Two.mk ?_ ?_ <;> intro _) | (guard_target =~ CallN_; first | refine RunU.cons (sC_ (hI) (.sh .nil) (.shAgg rfl gA_ .nil) rfl) ?_ | refine RunU.cons (sC_ (hB) (.sh .nil) (.shAgg rfl gA_ .nil) rfl) ?_) | refine goA ?_ | refine nxA ?_ | refine Done.ret (.one rA_ (.one rA_ (.one rA_ .nil))) (.sh .nil) ?_ rfl)
   all_goals first | rfl | (exfalso; simp_all; done)
 ·rw [if_neg hg, if_neg hg, if_neg hg]
  rw [decide_eq_false hg] at hI
  refine cA_ _ Tryz.func107 rfl Tryz.ntmps107 sO_ ?_
  repeat' (first | (refine Two.mk ?_ ?_ <;> intro _) | (guard_target =~ CallN_; first | refine RunU.cons (sC_ (hI) (.sh .nil) (.shAgg rfl gA_ .nil) rfl) ?_) | refine goA ?_ | refine nxA ?_ | refine Done.ret (.one rA_ (.one rA_ (.one rA_ .nil))) (.sh .nil) ?_ rfl)
  all_goals first | rfl | (exfalso; simp_all; done)
def NegD (w : List Int) (E : List (List Int)) : Prop := bdC w E = 0 ∧ ∀ i, i < (bdF w E).length → 0 < (bdF w E).getD i 0
noncomputable def ndB (w : List Int) (E : List (List Int)) : Bool := @decide (NegD w E) (Classical.propDecidable _)
theorem ndB_iff (w : List Int) (E : List (List Int)) : ndB w E = true ↔ NegD w E := by unfold ndB; exact @decide_eq_true_iff _ (Classical.propDecidable _)
theorem bdC_zero {w : List Int} {E : List (List Int)} (h : bdC w E = 0) : IsGr w E ∧ brOk w E ∧ bdF w E = fL w E := by
 unfold bdC at h
 split at h
 ·rename_i hg
  split at h
  ·rename_i hb
   refine ⟨hg, (brB_iff w E).1 hb, ?_⟩
   unfold bdF
   rw [if_pos hg]
   exact if_pos hb
  ·omega
 ·omega
theorem implND_c (w : List Int) (E : List (List Int)) (hw : w.length ≤ 2000000) (hE : E.length ≤ 2000000) (hfl : bdC w E = 0 → (bdF w E).length = w.length) : CallA Tryz.prog 48 [aGr w E] [rB (ndB w E), rI (bdC w E)] [] := by
 have hB := implBD_c w E hw hE
 by_cases hc : bdC w E = 0
 ·have hg := (bdC_zero hc).1
  have hlen := hg.1
  have hl := hfl hc
  have hM := min_c (bdF w E) (by omega) (by omega)
  have hp := minL_pos (l := bdF w E) ((bdF w E).length - 1)
  have e : ndB w E = decide (0 < minL (bdF w E) ((bdF w E).length - 1)) := by
   rw [Bool.eq_iff_iff, ndB_iff, decide_eq_true_iff, hp]
   unfold NegD
   exact ⟨fun h i hi => h.2 i (by omega), fun h => ⟨hc, fun i hi => h i (by omega)⟩⟩
  rw [e]
  rw [hc] at hB ⊢
  clear hfl hc e hp
  generalize minL (bdF w E) ((bdF w E).length - 1) = m at *
  generalize bdF w E = f at *
  generalize bdG w E = g at *
  refine cA_ _ Tryz.func48 rfl Tryz.ntmps48 sO_ ?_
  repeat' (first | (refine Two.mk ?_ ?_ <;> intro _) | (guard_target =~ CallN_; first | refine RunU.cons (sC_ (hB) (.sh .nil) (.shAgg rfl gA_ .nil) rfl) ?_ | refine RunU.cons (sC_ (hM) (.sh .nil) (.sh wS_ .nil) rfl) ?_) | refine goA ?_ | refine nxA ?_ | refine Done.ret (.one rA_ (.one rA_ .nil)) (.sh .nil) ?_ rfl)
  all_goals first | rfl | (exfalso; simp_all; done) | (exfalso; omega)
 ·have e : ndB w E = false := by
   cases h : ndB w E with
   | false => rfl
   | true => exact absurd ((ndB_iff w E).1 h).1 hc
  rw [e]
  clear e hfl
  generalize bdC w E = c at *
  generalize bdF w E = f at *
  generalize bdG w E = g at *
  refine cA_ _ Tryz.func48 rfl Tryz.ntmps48 sO_ ?_
  repeat' (first | (refine Two.mk ?_ ?_ <;> intro _) | (guard_target =~ CallN_; first | refine RunU.cons (sC_ (hB) (.sh .nil) (.shAgg rfl gA_ .nil) rfl) ?_) | refine goA ?_ | refine nxA ?_ | refine Done.ret (.one rA_ (.one rA_ .nil)) (.sh .nil) ?_ rfl)
  all_goals first | rfl | (exfalso; simp_all; done) | (exfalso; omega)
end Go.Proofs.YtmgmpnhlehonmaaGreat
namespace Go.Proofs.YtmgmpnhlehonmaaGreat
theorem bv_perm {w : List Int} {E : List (List Int)} {v : Int} : (bvE w E v).Perm ([v, (w.length : Int)] :: E) := (srtL_all _).trans (List.perm_append_singleton _ _)
theorem awt_bv {w : List Int} {v : Int} (hv : 0 ≤ v ∧ v < w.length) {x : Int} (hx : 0 ≤ x ∧ x < w.length) : awt (bvW w v) x = awt w x + if x = v then 1 else 0 := by
 unfold awt
 rw [bvW_at hv, if_neg (by omega), show ((x.toNat : Nat) : Int) = x by omega]
 split <;> omega
theorem awt_bvN {w : List Int} {v : Int} (hv : 0 ≤ v ∧ v < w.length) : awt (bvW w v) w.length = 1 := by
 unfold awt
 rw [Int.toNat_natCast, bvW_at hv, if_pos rfl]
 rfl
theorem bv_Dm {w : List Int} {E : List (List Int)} (hg : IsGr w E) {v : Int} (hv : 0 ≤ v ∧ v < w.length) {U : List Int} (hU : U.Nodup) (hin : ∀ x ∈ U, 0 ≤ x ∧ x < w.length) :
  Dm (awt (bvW w v)) (bvE w E v) (if v ∈ U then (w.length : Int) :: U else U) = Dm (awt w) E U := by
 rw [Dm_permE _ bv_perm]
 have hnU : (w.length : Int) ∉ U := fun q => by have := hin _ q; omega
 by_cases h : v ∈ U
 ·rw [if_pos h, Dm, if_pos (show e0 [v, (w.length : Int)] ∈ (w.length : Int) :: U ∧ e1 [v, (w.length : Int)] ∈ (w.length : Int) :: U from ⟨by simp [e0, h], by simp [e1]⟩)]
  have hn : ((w.length : Int) :: U).Nodup := List.nodup_cons.2 ⟨hnU, hU⟩
  have hnb : nbs (w.length : Int) E = [] := by
   have key : ∀ F : List (List Int), (∀ e ∈ F, e0 e ≠ (w.length : Int) ∧ e1 e ≠ (w.length : Int)) → nbs (w.length : Int) F = [] := by
    intro F
    induction F with
    | nil => exact fun _ => rfl
    | cons e F ih => intro h; rw [nbs, if_neg (h e (by simp)).1, if_neg (h e (by simp)).2, ih fun f hf => h f (by simp [hf])]
   refine key E fun e he => ?_
   obtain ⟨a, b, rfl, h1, h2, h3⟩ := good_edge hg.2.2.1 e he
   show a ≠ _ ∧ b ≠ _
   omega
  have e1' : Dm (awt (bvW w v)) E ((w.length : Int) :: U) = Dm (awt (bvW w v)) E U := by
   rw [Dm_at _ E (noLoop hg.2.2.1) hn (v := (w.length : Int)) (by simp), hnb, smL, awt_bvN hv, Int.one_mul, wo_cons_self, wo_out hnU]
   omega
  have e2' : wo (wo ((w.length : Int) :: U) (e0 [v, (w.length : Int)])) (e1 [v, (w.length : Int)]) = wo U v := by
   show wo (wo ((w.length : Int) :: U) v) (w.length : Int) = wo U v
   rw [wo_comm, wo_cons_self, wo_out hnU]
  rw [e1', e2']
  have h1 := Dm_raise (a := awt w) (b := awt (bvW w v)) (noLoop hg.2.2.1) hU h (by rw [awt_bv hv hv, if_pos rfl]) (fun x hx hne => by rw [awt_bv hv (hin x hx), if_neg hne, Int.add_zero])
  have h2 : Dm (awt (bvW w v)) E (wo U v) = Dm (awt w) E (wo U v) := Dm_congr E fun x hx => by
   have := wo_mem.1 hx
   rw [awt_bv hv (hin x this.1), if_neg this.2, Int.add_zero]
  omega
 ·rw [if_neg h, Dm_off _ E (fun q => h q.1)]
  exact Dm_congr E fun x hx => by rw [awt_bv hv (hin x hx), if_neg (fun (e : x = v) => h (e ▸ hx)), Int.add_zero]
end Go.Proofs.YtmgmpnhlehonmaaGreat
namespace Go.Proofs.YtmgmpnhlehonmaaGreat
set_option maxRecDepth 100000
set_option maxHeartbeats 20000000
open Go.Pv
open Go.ChangeShapes Go.WideShapes Go.ChangeAt Go.RowKit
attribute [local irreducible] RunU WpA Step CallG CallNG Done DoneN
def PlaceAt (P S : List Int) (i : Nat) : Prop := if i = 0 then P.getD 0 0 = -1 ∧ S.getD 0 0 = -1 else (0 ≤ P.getD i 0 ∧ P.getD i 0 ≤ (i : Int) - 1) ∧ (S.getD i 0 = -1 ∨ 0 ≤ S.getD i 0 ∧ (S.getD i 0 = P.getD (P.getD i 0).toNat 0 ∨ S.getD i 0 = S.getD (P.getD i 0).toNat 0))
instance (P S : List Int) (i : Nat) : Decidable (PlaceAt P S i) := by unfold PlaceAt; infer_instance
def FreshAt (P S : List Int) (i : Nat) : Prop := ∀ j, j < i → ¬ (0 ≤ S.getD i 0 ∧ S.getD i 0 = S.getD j 0 ∧ P.getD i 0 = P.getD j 0)
instance (P S : List Int) (i : Nat) : Decidable (FreshAt P S i) := by unfold FreshAt; infer_instance
def IsCl (P S W : List Int) : Prop := (1 ≤ P.length ∧ P.length ≤ 24) ∧ (S.length = P.length ∧ W.length = P.length) ∧ Within W (-100000) 100000 ∧ ∀ i, i < P.length → PlaceAt P S i ∧ FreshAt P S i
instance decIsCl (P S W : List Int) : Decidable (IsCl P S W) := by unfold IsCl; infer_instance
structure Cl (P S W : List Int) : Prop where
 len : 1 ≤ P.length ∧ P.length ≤ 24
 lS : S.length = P.length
 lW : W.length = P.length
 w : ∀ i, i < P.length → -100000 ≤ W.getD i 0 ∧ W.getD i 0 ≤ 100000
 p0 : P.getD 0 0 = -1 ∧ S.getD 0 0 = -1
 p : ∀ i, 1 ≤ i → i < P.length → 0 ≤ P.getD i 0 ∧ P.getD i 0 ≤ (i : Int) - 1
 s : ∀ i, i < P.length → S.getD i 0 = -1 ∨ 0 ≤ S.getD i 0 ∧ S.getD i 0 ≤ (i : Int) - 2
 sp : ∀ i, 1 ≤ i → i < P.length → S.getD i 0 = -1 ∨ 0 ≤ S.getD i 0 ∧ (S.getD i 0 = P.getD (P.getD i 0).toNat 0 ∨ S.getD i 0 = S.getD (P.getD i 0).toNat 0)
 fresh : ∀ i j, i < P.length → j < i → ¬ (0 ≤ S.getD i 0 ∧ S.getD i 0 = S.getD j 0 ∧ P.getD i 0 = P.getD j 0)
theorem IsCl.cl {P S W : List Int} (h : IsCl P S W) : Cl P S W := by
 obtain ⟨h1, ⟨h2, h3⟩, h4, h5⟩ := h
 have p0 : P.getD 0 0 = -1 ∧ S.getD 0 0 = -1 := by
  have := (h5 0 (by omega)).1
  rwa [PlaceAt, if_pos rfl] at this
 have pl : ∀ i, 1 ≤ i → i < P.length → (0 ≤ P.getD i 0 ∧ P.getD i 0 ≤ (i : Int) - 1) ∧ (S.getD i 0 = -1 ∨ 0 ≤ S.getD i 0 ∧ (S.getD i 0 = P.getD (P.getD i 0).toNat 0 ∨ S.getD i 0 = S.getD (P.getD i 0).toNat 0)) := fun i h1 hi => by
  have := (h5 i hi).1
  rwa [PlaceAt, if_neg (by omega)] at this
 have hs : ∀ m i, i < m → i < P.length → S.getD i 0 = -1 ∨ 0 ≤ S.getD i 0 ∧ S.getD i 0 ≤ (i : Int) - 2 := by
  intro m
  induction m with
  | zero => intro i hi; omega
  | succ m ih =>
   intro i hi hl
   by_cases h0 : i = 0
   ·subst h0; exact .inl p0.2
   ·obtain ⟨q1, q2⟩ := pl i (by omega) hl
    rcases q2 with q2 | ⟨q2, q3 | q3⟩
    ·exact .inl q2
    ·refine .inr ⟨q2, ?_⟩
     by_cases e : (P.getD i 0).toNat = 0
     ·rw [e, p0.1] at q3; omega
     ·have := (pl (P.getD i 0).toNat (by omega) (by omega)).1
      omega
    ·refine .inr ⟨q2, ?_⟩
     have := ih (P.getD i 0).toNat (by omega) (by omega)
     omega
 exact ⟨h1, h2, h3, fun i hi => h4 i (by omega), p0, fun i a b => (pl i a b).1, fun i hi => hs (i + 1) i (by omega) hi, fun i a b => (pl i a b).2, fun i j hi hj => (h5 i hi).2 j hj⟩
def prxAt (P S : List Int) (j : Nat) : List Int := if j = 0 then [] else (if 0 ≤ S.getD j 0 then [S.getD j 0] else []) ++ [P.getD j 0]
def prxTo (P S : List Int) (j : Nat) : List (List Int) := (List.range j).map (prxAt P S)
theorem prxTo_len (P S : List Int) (j : Nat) : (prxTo P S j).length = j := by simp [prxTo]
theorem prxTo_at (P S : List Int) {i j : Nat} (h : i < j) : (prxTo P S j).getD i [] = prxAt P S i := by
 simp [prxTo, List.getD_eq_getElem?_getD, h]
def exAt (P S W : List Int) (i : Nat) : Nat → Int
 | 0 => W.getD i 0
 | j + 1 => exAt P S W i j - (if 1 ≤ j then (if S.getD j 0 = i then W.getD j 0 else 0) + (if P.getD j 0 = i then W.getD j 0 else 0) else 0)
def exTo (P S W : List Int) (j : Nat) : List Int := (List.range W.length).map fun i => exAt P S W i j
theorem exTo_len (P S W : List Int) (j : Nat) : (exTo P S W j).length = W.length := by simp [exTo]
theorem exTo_at (P S W : List Int) (j : Nat) {i : Nat} (h : i < W.length) : (exTo P S W j).getD i 0 = exAt P S W i j := by
 simp [exTo, List.getD_eq_getElem?_getD, h]
theorem exAt_bnd {P S W : List Int} (h : ∀ i, i < W.length → -100000 ≤ W.getD i 0 ∧ W.getD i 0 ≤ 100000) {i : Nat} (hi : i < W.length) : ∀ j, j ≤ W.length → -100000 - 200000 * (j : Int) ≤ exAt P S W i j ∧ exAt P S W i j ≤ 100000 + 200000 * (j : Int)
 | 0, _ => by have := h i hi; simp only [exAt]; omega
 | j + 1, hj => by
  have ih := exAt_bnd (P := P) (S := S) h hi j (by omega)
  have hw := h j (by omega)
  simp only [exAt]
  split <;> (try split) <;> (try split) <;> omega
def orTo (P S W : List Int) : Nat → List Int
 | 0 => []
 | j + 1 => orTo P S W j ++ [W.getD j 0 + (if 0 ≤ S.getD j 0 then (orTo P S W j).getD (S.getD j 0).toNat 0 else 0) + (if 1 ≤ j then (orTo P S W j).getD (P.getD j 0).toNat 0 else 0)]
theorem orTo_len (P S W : List Int) : ∀ j, (orTo P S W j).length = j
 | 0 => rfl
 | j + 1 => by simp [orTo, orTo_len P S W j]
theorem orTo_bnd {P S W : List Int} (h : ∀ i, i < W.length → -100000 ≤ W.getD i 0 ∧ W.getD i 0 ≤ 100000) : ∀ j, j ≤ W.length → ∀ i, -100000 * 3 ^ j ≤ (orTo P S W j).getD i 0 ∧ (orTo P S W j).getD i 0 ≤ 100000 * 3 ^ j
 | 0, _, i => by simp [orTo]
 | j + 1, hj, i => by
  have ih := orTo_bnd (P := P) (S := S) h j (by omega)
  have h1 := ih (S.getD j 0).toNat
  have h2 := ih (P.getD j 0).toNat
  have h3 := ih i
  have hw := h j (by omega)
  have hp : (1 : Int) ≤ 3 ^ j := by
   have : (0 : Int) < 3 ^ j := Int.pow_pos (by omega)
   omega
  have e : (3 : Int) ^ (j + 1) = 3 * 3 ^ j := by rw [Int.pow_succ, Int.mul_comm]
  rw [e]
  have hl := orTo_len P S W j
  by_cases hi : i < j
  ·rw [orTo, List.getD_eq_getElem?_getD, List.getElem?_append_left (by omega), ← List.getD_eq_getElem?_getD]
   omega
  ·by_cases e2 : i = j
   ·subst e2
    rw [orTo, List.getD_eq_getElem?_getD, List.getElem?_append_right (by omega), hl, Nat.sub_self]
    simp only [List.getElem?_cons_zero, Option.getD_some]
    split <;> split <;> omega
   ·rw [List.getD_eq_getElem?_getD, List.getElem?_eq_none (by rw [orTo_len]; omega)]
    simp
    omega
def sub1 (A : List Int) (i : Nat) (w : Int) : List Int := A.set i (A.getD i 0 - w)
theorem sub1_len (A : List Int) (i : Nat) (w : Int) : (sub1 A i w).length = A.length := by simp [sub1]
theorem sub1_at (A : List Int) (i : Nat) (w : Int) (k : Nat) (hk : k < A.length) : (sub1 A i w).getD k 0 = A.getD k 0 - (if i = k then w else 0) := by
 by_cases e : i = k
 ·subst e
  rw [sub1, List.getD_eq_getElem?_getD, List.getElem?_set_self hk, if_pos rfl]; rfl
 ·rw [sub1, List.getD_eq_getElem?_getD, List.getElem?_set_ne e, ← List.getD_eq_getElem?_getD, if_neg e, Int.sub_zero]
theorem toNat_is {x : Int} {k : Nat} (h : 0 ≤ x) : (x.toNat = k) = (x = (k : Int)) := by
 apply propext; omega
theorem exTo_two {P S W : List Int} (h : Cl P S W) {j : Nat} (h1 : 1 ≤ j) (hj : j < P.length) (hs : 0 ≤ S.getD j 0) :
  sub1 (sub1 (exTo P S W j) (P.getD j 0).toNat (W.getD j 0)) (S.getD j 0).toNat (W.getD j 0) = exTo P S W (j + 1) ∧ sub1 (sub1 (exTo P S W j) (S.getD j 0).toNat (W.getD j 0)) (P.getD j 0).toNat (W.getD j 0) = exTo P S W (j + 1) := by
 have hw := h.lW
 have hp := (h.p j h1 hj).1
 constructor <;> refine list_ext (by simp [sub1_len, exTo_len]) fun k hk => ?_
 all_goals
  simp only [sub1_len, exTo_len] at hk
  rw [sub1_at _ _ _ _ (by simp [sub1_len, exTo_len]; omega), sub1_at _ _ _ _ (by simp [exTo_len]; omega), exTo_at _ _ _ _ hk, exTo_at _ _ _ _ hk, exAt, if_pos h1]
  simp only [toNat_is hp, toNat_is hs]
  omega
theorem exTo_one {P S W : List Int} (h : Cl P S W) {j : Nat} (h1 : 1 ≤ j) (hj : j < P.length) (hs : ¬ 0 ≤ S.getD j 0) :
  sub1 (exTo P S W j) (P.getD j 0).toNat (W.getD j 0) = exTo P S W (j + 1) := by
 have hw := h.lW
 have hp := (h.p j h1 hj).1
 refine list_ext (by simp [sub1_len, exTo_len]) fun k hk => ?_
 simp only [sub1_len, exTo_len] at hk
 rw [sub1_at _ _ _ _ (by simp [exTo_len]; omega), exTo_at _ _ _ _ hk, exTo_at _ _ _ _ hk, exAt, if_pos h1]
 simp only [toNat_is hp]
 have : ¬ S.getD j 0 = (k : Int) := by omega
 rw [if_neg this]
 omega
theorem exTo_zero (P S W : List Int) : exTo P S W 0 = W := by
 refine list_ext (by simp [exTo_len]) fun k hk => ?_
 simp only [exTo_len] at hk
 rw [exTo_at _ _ _ _ hk, exAt]
theorem exTo_first (P S W : List Int) : exTo P S W 1 = W := by
 refine list_ext (by simp [exTo_len]) fun k hk => ?_
 simp only [exTo_len] at hk
 rw [exTo_at _ _ _ _ hk, exAt, exAt]
 simp
instance fnOk149 : FnOk Tryz.prog 149 := ⟨_, Tryz.func149, rfl, by decide⟩
instance fnOk98 : FnOk Tryz.prog 98 := ⟨_, Tryz.func98, rfl, by decide⟩
instance fnOk150 : FnOk Tryz.prog 150 := ⟨_, Tryz.func150, rfl, by decide⟩
instance fnOk100 : FnOk Tryz.prog 100 := ⟨_, Tryz.func100, rfl, by decide⟩
abbrev aCl (P S W : List Int) : Arg := .sh (.agg [.sl false 1 (ints P), .sl false 1 (ints S), .sl false 1 (ints W)])
abbrev vJ (x : Int) : AV := .c (.lit (.int .i64 x))
abbrev vCl (P S W : List Int) : AV := .own 1 (.pt true [.sl false 1 (ints P), .sl false 1 (ints S), .sl false 1 (ints W)])
theorem isPlace_c (P S W : List Int) (i : Nat) (hi : i < P.length) (hS : S.length = P.length) (hl : P.length ≤ 24) : CallA Tryz.prog 149 [aCl P S W, aI i] [rB (decide (PlaceAt P S i))] [] := by
 have hI := inRange_c (P.getD (i * 1) 0) 0 ((i : Int) - 1)
 by_cases h0 : i = 0
 ·refine cA_ _ Tryz.func149 rfl Tryz.ntmps149 sO_ ?_
  repeat' (first | (refine Two.mk ?_ ?_ <;> intro _) | refine goA ?_ | (guard_target =~ IsG; first | refine psA ?_ | refine gdA ?_) | (refine neA ?_; first | refine nxA ?_ | refine Done.ret (.one rA_ .nil) (.sh (.sh .nil)) ?_ rfl) | fail)
  all_goals try (exfalso; omega)
  all_goals (clear hI; subst h0; simp_all [PlaceAt])
 ·by_cases hp : 0 ≤ P.getD (i * 1) 0 ∧ P.getD (i * 1) 0 ≤ (i : Int) - 1
  ·rw [decide_eq_true hp] at hI
   refine cA_ _ Tryz.func149 rfl Tryz.ntmps149 sO_ ?_
   repeat' (first | (refine Two.mk ?_ ?_ <;> intro _) | (guard_target =~ CallN_; first | refine RunU.cons (sC_ (hI) (.sh (.sh (.sh .nil))) (.sh wS_ (.sh wS_ (.sh wS_ .nil))) rfl) ?_) | refine goA ?_ | (guard_target =~ IsG; first | refine psA ?_ | refine gdA ?_) | (refine neA ?_; first | refine nxA ?_ | refine Done.ret (.one rA_ .nil) (.sh (.sh .nil)) ?_ rfl) | fail)
   all_goals try (exfalso; omega)
   all_goals (clear hI; simp_all [PlaceAt]; try (intro h; omega))
  ·rw [decide_eq_false hp] at hI
   rw [decide_eq_false (fun h => hp (by rw [PlaceAt, if_neg h0] at h; simpa using h.1))]
   refine cA_ _ Tryz.func149 rfl Tryz.ntmps149 sO_ ?_
   repeat' (first | (refine Two.mk ?_ ?_ <;> intro _) | (guard_target =~ CallN_; first | refine RunU.cons (sC_ (hI) (.sh (.sh (.sh .nil))) (.sh wS_ (.sh wS_ (.sh wS_ .nil))) rfl) ?_) | refine goA ?_ | (guard_target =~ IsG; first | refine psA ?_ | refine gdA ?_) | (refine neA ?_; first | refine nxA ?_ | refine Done.ret (.one rA_ .nil) (.sh (.sh .nil)) ?_ rfl) | fail)
   all_goals first | rfl | (exfalso; omega)
theorem implIsCl_c (P S W : List Int) (hP : P.length ≤ 9223372036854775807) (hS : S.length ≤ 9223372036854775807) (hW : W.length ≤ 9223372036854775807) : CallA Tryz.prog 98 [aCl P S W] [rB (decide (IsCl P S W))] [] := by
 have hWi := within_c W (-100000) 100000 hW
 by_cases hk : (1 ≤ P.length ∧ P.length ≤ 24) ∧ (S.length = P.length ∧ W.length = P.length)
 ·by_cases hw : Within W (-100000) 100000
  ·rw [decide_eq_true hw] at hWi
   refine cA_ _ Tryz.func98 rfl Tryz.ntmps98 sO_ ?_
   repeat' (first | (refine Two.mk ?_ ?_ <;> intro _) | (guard_target =~ CallN_; first | refine RunU.cons (sC_ (hWi) (.sh (.sh (.sh .nil))) (.sh wS_ (.sh wS_ (.sh wS_ .nil))) rfl) ?_) | refine goA ?_ | (guard_target =~ IsG; first | refine psA ?_ | refine gdA ?_) | (refine neA ?_; first | refine nxA ?_ | refine Done.ret (.one rA_ .nil) (.sh .nil) ?_ rfl) | fail)
   all_goals try (exfalso; omega)
   clear hWi
   refine WpA.loop_slots (ι := Nat) (fun i => [(1, vCl P S W), (33, vJ P.length), (34, vJ i)]) (fun i => i ≤ P.length ∧ ∀ k, k < i → PlaceAt P S k ∧ FreshAt P S k) (fun i => P.length - i) 0 ⟨by omega, fun k h => by omega⟩ ⟨rfl, rfl, rfl, trivial⟩ ?_
   rintro i s nx ⟨hi, hok⟩
   by_cases hlt : i < P.length
   ·have hPl := isPlace_c P S W i hlt (by omega) (by omega)
    by_cases hpl : PlaceAt P S i
    ·rw [decide_eq_true hpl] at hPl
     repeat' (first | (refine Two.mk ?_ ?_ <;> intro _) | (guard_target =~ CallN_; first | refine RunU.cons (sC_ (hPl) (.sh (.sh .nil)) (.shAgg rfl gA_ (.sh wS_ .nil)) rfl) ?_) | refine goA ?_ | (guard_target =~ IsG; first | refine psA ?_ | refine gdA ?_) | (refine neA ?_; first | refine nxA ?_ | refine Done.ret (.one rA_ .nil) (.sh .nil) ?_ rfl) | fail)
     all_goals try (exfalso; omega)
     refine WpA.loop_slots (ι := Nat) (fun j => [(1, vCl P S W), (33, vJ P.length), (34, vJ i), (4, vJ i), (41, vJ i), (42, vJ j)]) (fun j => j ≤ i ∧ ∀ k, k < j → ¬ (0 ≤ S.getD i 0 ∧ S.getD i 0 = S.getD k 0 ∧ P.getD i 0 = P.getD k 0)) (fun j => i - j) 0 ⟨by omega, fun k h => by omega⟩ ⟨rfl, rfl, rfl, rfl, rfl, rfl, trivial⟩ ?_
     rintro j s nx ⟨hj, hfr⟩
     by_cases hji : j < i
     ·clear hPl
      by_cases hb : 0 ≤ S.getD (i * 1) 0 ∧ S.getD (i * 1) 0 = S.getD (j * 1) 0 ∧ P.getD (i * 1) 0 = P.getD (j * 1) 0
      ·have hno : ¬ IsCl P S W := fun h => (h.2.2.2 i hlt).2 j hji (by simpa using hb)
       rw [decide_eq_false hno]
       clear hok hfr hno
       repeat' (first | (refine Two.mk ?_ ?_ <;> intro _) | refine goA ?_ | (guard_target =~ IsG; first | refine psA ?_ | refine gdA ?_) | (refine neA ?_; first | refine nxA ?_ | refine Done.ret (.one rA_ .nil) (.sh .nil) ?_ rfl) | fail)
       all_goals first | rfl | (exfalso; omega)
      ·have hfr2 : ∀ k, k < j + 1 → ¬ (0 ≤ S.getD i 0 ∧ S.getD i 0 = S.getD k 0 ∧ P.getD i 0 = P.getD k 0) := fun k hk => by
        by_cases e : k = j
        ·subst e; simpa using hb
        ·exact hfr k (by omega)
       clear hok hfr
       repeat' (first | (refine Two.mk ?_ ?_ <;> intro _) | refine goA ?_ | (guard_target =~ IsG; first | refine psA ?_ | refine gdA ?_) | (refine neA ?_; first | refine nxA ?_ | refine Done.ret (.one rA_ .nil) (.sh .nil) ?_ rfl) | fail)
       all_goals try (exfalso; omega)
       all_goals exact ⟨j + 1, ⟨by omega, hfr2⟩, ⟨rfl, rfl, rfl, rfl, rfl, int_eq (by omega), trivial⟩, by omega⟩
     ·have hok2 : ∀ k, k < i + 1 → PlaceAt P S k ∧ FreshAt P S k := fun k hk => by
       by_cases e : k = i
       ·subst e; exact ⟨hpl, fun q hq => hfr q (by omega)⟩
       ·exact hok k (by omega)
      clear hok hfr hPl
      repeat' (first | (refine Two.mk ?_ ?_ <;> intro _) | refine goA ?_ | (guard_target =~ IsG; first | refine psA ?_ | refine gdA ?_) | (refine neA ?_; first | refine nxA ?_ | refine Done.ret (.one rA_ .nil) (.sh .nil) ?_ rfl) | fail)
      all_goals try (exfalso; omega)
      all_goals exact ⟨i + 1, ⟨by omega, hok2⟩, ⟨rfl, rfl, int_eq (by omega), trivial⟩, by omega⟩
    ·rw [decide_eq_false hpl] at hPl
     have hno : ¬ IsCl P S W := fun h => hpl (h.2.2.2 i hlt).1
     rw [decide_eq_false hno]
     clear hok hno
     repeat' (first | (refine Two.mk ?_ ?_ <;> intro _) | (guard_target =~ CallN_; first | refine RunU.cons (sC_ (hPl) (.sh (.sh .nil)) (.shAgg rfl gA_ (.sh wS_ .nil)) rfl) ?_) | refine goA ?_ | (guard_target =~ IsG; first | refine psA ?_ | refine gdA ?_) | (refine neA ?_; first | refine nxA ?_ | refine Done.ret (.one rA_ .nil) (.sh .nil) ?_ rfl) | fail)
     all_goals first | rfl | (exfalso; omega)
   ·have hyes : IsCl P S W := ⟨hk.1, hk.2, hw, fun k hk => hok k (by omega)⟩
    rw [decide_eq_true hyes]
    clear hok hyes
    repeat' (first | (refine Two.mk ?_ ?_ <;> intro _) | refine goA ?_ | (guard_target =~ IsG; first | refine psA ?_ | refine gdA ?_) | (refine neA ?_; first | refine nxA ?_ | refine Done.ret (.one rA_ .nil) (.sh .nil) ?_ rfl) | fail)
    all_goals first | rfl | (exfalso; omega)
  ·rw [decide_eq_false hw] at hWi
   rw [decide_eq_false (fun h : IsCl P S W => hw h.2.2.1)]
   refine cA_ _ Tryz.func98 rfl Tryz.ntmps98 sO_ ?_
   repeat' (first | (refine Two.mk ?_ ?_ <;> intro _) | (guard_target =~ CallN_; first | refine RunU.cons (sC_ (hWi) (.sh (.sh (.sh .nil))) (.sh wS_ (.sh wS_ (.sh wS_ .nil))) rfl) ?_) | refine goA ?_ | (guard_target =~ IsG; first | refine psA ?_ | refine gdA ?_) | (refine neA ?_; first | refine nxA ?_ | refine Done.ret (.one rA_ .nil) (.sh .nil) ?_ rfl) | fail)
   all_goals first | rfl | (exfalso; omega)
 ·rw [decide_eq_false (fun h : IsCl P S W => hk ⟨h.1, h.2.1⟩)]
  clear hWi
  refine cA_ _ Tryz.func98 rfl Tryz.ntmps98 sO_ ?_
  repeat' (first | (refine Two.mk ?_ ?_ <;> intro _) | refine goA ?_ | (guard_target =~ IsG; first | refine psA ?_ | refine gdA ?_) | (refine neA ?_; first | refine nxA ?_ | refine Done.ret (.one rA_ .nil) (.sh .nil) ?_ rfl) | fail)
  all_goals first | rfl | (exfalso; omega) | skip
def NearC (P S : List Int) (i : Nat) (j : Int) : Prop := 0 ≤ j ∧ (P.getD i 0 = j ∨ S.getD i 0 = j)
instance (P S : List Int) (i : Nat) (j : Int) : Decidable (NearC P S i j) := by unfold NearC; infer_instance
theorem near_cl (P S W : List Int) (i j : Int) (hi : 0 ≤ i ∧ i < P.length) (hS : S.length = P.length) (hl : P.length ≤ 24) : CallA Tryz.prog 150 [aCl P S W, aI i, aI j] [rB (decide (NearC P S (i.toNat * 1) j))] [] := by
 refine cA_ _ Tryz.func150 rfl Tryz.ntmps150 sO_ ?_
 repeat' (first | (refine Two.mk ?_ ?_ <;> intro _) | refine goA ?_ | (guard_target =~ IsG; first | refine psA ?_ | refine gdA ?_) | (refine neA ?_; first | refine nxA ?_ | refine Done.ret (.one rA_ .nil) (.sh (.sh (.sh .nil))) ?_ rfl) | fail)
 all_goals try (exfalso; omega)
 all_goals (unfold NearC; simp_all; try (intro h; omega))
def pe (P S : List Int) (i j : Nat) : Int := if i = j then 1 else if P.getD i 0 = (j : Int) ∨ S.getD i 0 = (j : Int) then -1 else 0
theorem pe_mul (P S : List Int) (i j k : Nat) : -1 ≤ pe P S i j * pe P S i k ∧ pe P S i j * pe P S i k ≤ 1 := by
 unfold pe
 split <;> (try split) <;> (try split) <;> (try split) <;> simp
def mtTo (P S : List Int) : Nat → Nat → Nat → Int
 | 0, _, _ => 0
 | j + 1, i, k => mtTo P S j i k - pe P S j i * pe P S j k
theorem mtTo_in (P S : List Int) (i k : Nat) : ∀ j : Nat, -(j : Int) ≤ mtTo P S j i k ∧ mtTo P S j i k ≤ j
 | 0 => by simp [mtTo]
 | j + 1 => by
  have := mtTo_in P S i k j
  have := pe_mul P S j i k
  simp only [mtTo]
  omega
def rowE (P S : List Int) (n i : Nat) : Nat → List (List Int)
 | 0 => []
 | m + 1 => rowE P S n i m ++ if mtTo P S n i (i + 1 + m) = 1 then [[(i : Int), ((i + 1 + m : Nat) : Int)]] else []
def edTo (P S : List Int) (n : Nat) : Nat → List (List Int)
 | 0 => []
 | i + 1 => edTo P S n i ++ rowE P S n i (n - 1 - i)
theorem rowE_len (P S : List Int) (n i : Nat) : ∀ m, (rowE P S n i m).length ≤ m
 | 0 => Nat.le_refl _
 | m + 1 => by
  have := rowE_len P S n i m
  rw [rowE, List.length_append]
  split <;> simp <;> omega
theorem edTo_len (P S : List Int) (n : Nat) : ∀ i, (edTo P S n i).length ≤ i * n
 | 0 => by simp [edTo]
 | i + 1 => by
  have h1 := edTo_len P S n i
  have h2 := rowE_len P S n i (n - 1 - i)
  rw [edTo, List.length_append, Nat.add_mul]
  omega
theorem rowE_mem {P S : List Int} {n i : Nat} : ∀ (m : Nat) (e : List Int), e ∈ rowE P S n i m → ∃ x : Nat, x < m ∧ e = [(i : Int), ((i + 1 + x : Nat) : Int)]
 | 0, e, h => by simp [rowE] at h
 | m + 1, e, h => by
  rw [rowE] at h
  rcases List.mem_append.1 h with h | h
  ·obtain ⟨x, h1, h2⟩ := rowE_mem m e h
   exact ⟨x, by omega, h2⟩
  ·split at h
   ·rw [List.mem_singleton] at h
    exact ⟨m, by omega, h⟩
   ·simp at h
theorem edTo_mem {P S : List Int} {n : Nat} : ∀ (i : Nat) (e : List Int), e ∈ edTo P S n i → ∃ a b : Nat, a < i ∧ a < b ∧ b < n ∧ e = [(a : Int), (b : Int)]
 | 0, e, h => by simp [edTo] at h
 | i + 1, e, h => by
  rw [edTo] at h
  rcases List.mem_append.1 h with h | h
  ·obtain ⟨a, b, h1, h2, h3, h4⟩ := edTo_mem i e h
   exact ⟨a, b, by omega, h2, h3, h4⟩
  ·obtain ⟨x, h1, h2⟩ := rowE_mem _ e h
   exact ⟨i, i + 1 + x, by omega, by omega, by omega, h2⟩
theorem lexPair {a b c d : Int} (h : a < c ∨ a = c ∧ b < d) : lexC [a, b] [c, d] < 0 := by
 rcases h with h | ⟨rfl, h⟩
 ·rw [lexC, if_pos h]; omega
 ·rw [lexC, if_neg (by omega), if_neg (by omega), lexC, if_pos h]; omega
theorem rowE_asc (P S : List Int) (n i : Nat) : ∀ m, (rowE P S n i m).Pairwise fun x y => lexC x y < 0
 | 0 => List.Pairwise.nil
 | m + 1 => by
  rw [rowE]
  refine List.pairwise_append.2 ⟨rowE_asc P S n i m, ?_, fun x hx y hy => ?_⟩
  ·split <;> simp
  ·obtain ⟨p, h1, rfl⟩ := rowE_mem m x hx
   split at hy
   ·rw [List.mem_singleton] at hy
    subst hy
    exact lexPair (.inr ⟨rfl, by omega⟩)
   ·simp at hy
theorem edTo_asc (P S : List Int) (n : Nat) : ∀ i, (edTo P S n i).Pairwise fun x y => lexC x y < 0
 | 0 => List.Pairwise.nil
 | i + 1 => by
  rw [edTo]
  refine List.pairwise_append.2 ⟨edTo_asc P S n i, rowE_asc P S n i _, fun x hx y hy => ?_⟩
  obtain ⟨a, b, h1, h2, h3, rfl⟩ := edTo_mem i x hx
  obtain ⟨p, h4, rfl⟩ := rowE_mem _ y hy
  exact lexPair (.inl (by omega))
theorem edTo_good (P S : List Int) (n : Nat) : GoodE n (edTo P S n n) := by
 intro j hj
 have hg : (edTo P S n n).getD j [] = (edTo P S n n)[j] := by rw [List.getD_eq_getElem?_getD, List.getElem?_eq_getElem hj]; rfl
 obtain ⟨a, b, h1, h2, h3, h4⟩ := edTo_mem n _ (List.getElem_mem hj)
 refine ⟨by rw [hg, h4]; rfl, ?_, fun h0 => ?_⟩
 ·unfold ea eb
  rw [hg, h4]
  simp
  omega
 ·have hg2 : (edTo P S n n).getD (j - 1) [] = (edTo P S n n)[j - 1] := by rw [List.getD_eq_getElem?_getD, List.getElem?_eq_getElem (by omega)]; rfl
  rw [hg, hg2]
  exact List.pairwise_iff_getElem.1 (edTo_asc P S n n) (j - 1) j (by omega) hj (by omega)
end Go.Proofs.YtmgmpnhlehonmaaGreat
