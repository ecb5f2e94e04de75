/- The library's contracts at this program's numbers. No condition. -/
import Derived.Test.YtmgmpnhlehonmaaGreatKGrG
import Derived.Test.YtmgmpnhlehonmaaGreatKGrT
import Derived.Shelf.Bits.Mul64
import Derived.Test.YtmgmpnhlehonmaaGreatProg
set_option linter.unusedVariables false
set_option linter.unusedSimpArgs false
namespace Go.Proofs.YtmgmpnhlehonmaaGreat
set_option maxHeartbeats 20000000
open Go.Pv
open Go.ChangeShapes Go.WideShapes Go.ChangeAt Go.RowKit
attribute [local irreducible] RunU WpA Step CallG CallNG Done DoneN
instance fnOk70 : FnOk Tryz.prog 70 := ⟨_, Tryz.func70, rfl, by decide⟩
instance fnOk165 : FnOk Tryz.prog 165 := ⟨_, Tryz.func165, rfl, by decide⟩
theorem path_next {w : List Int} {E : List (List Int)} (hg : IsGr w E) {k : Int} {o p : List Int} (hO : Ord w E k o p) : ∀ (s : Nat) (P q : List Int), NB E P → P = q ++ [k] → s + 1 < P.length → p.getD (P.getD s 0).toNat 0 = P.getD (s + 1) 0
 | 0, P, q, hn, e, hs => by
  match P, hs with
  | x :: y :: l, _ =>
   have hb : Bw E k [] x y := ⟨y :: l, q, hn, e, rfl⟩
   exact (hO.par x ((hO.mem x).2 ⟨y, hb⟩)).uniq hg.forest hb
 | s + 1, P, q, hn, e, hs => by
  match P, q, hs, e with
  | x :: P, z :: q, hs, e =>
   obtain ⟨rfl, e'⟩ := List.cons.inj e
   have := path_next hg hO s P q hn.tail e' (by simpa using hs)
   simpa using this
  | x :: P, [], hs, e =>
   obtain ⟨_, e'⟩ := List.cons.inj e
   subst e'
   simp at hs
theorem path_last {P q : List Int} {k : Int} (e : P = q ++ [k]) : P.getD (P.length - 1) 0 = k := by
 subst e
 rw [List.length_append, List.length_singleton, Nat.add_sub_cancel, getD_last]
theorem l11Path_c (w : List Int) (E : List (List Int)) (i k : Int) (hg : IsGr w E) (hi : 0 ≤ i ∧ i < w.length) (hk : 0 ≤ k ∧ k < w.length) : CallA Tryz.prog 70 [aGr w E, aI i, aI k] [rL (pth w E i k)] [] := by
 have hlen := hg.1
 have hO := ord_law hg hk
 have hC := order_c w E k hg hk
 have hol := hO.len
 have hH := has_c (ordF w.length E k) i (by omega)
 by_cases hb : ∃ u, Bw E k [] i u
 ·have hmem := (hO.mem i).2 hb
  obtain ⟨u, hb⟩ := hb
  obtain ⟨l, q, hn, he, hp⟩ := pth_bw hg hi hb
  have hnx := fun s hs => path_next hg hO s (i :: l) q hn he hs
  have hla := path_last he
  have hnd := hg.forest _ hn
  have hPl := hn.len hg hi
  have hPr := hn.range hg.2.2.1 hi
  have hpl := hO.plen
  rw [hp]
  rw [decide_eq_true hmem] at hH
  generalize ordF w.length E k = o at *
  generalize parF w.length E k = p at *
  generalize hP : i :: l = P at *
  have hP0 : P.getD 0 0 = i := by rw [← hP]; rfl
  have hP1 : P.take (0 + 1) = [i] := by rw [← hP]; rfl
  have hPn : 0 < P.length := by rw [← hP]; simp
  clear hO hmem hb hp
  refine cA_ _ Tryz.func70 rfl Tryz.ntmps70 sO_ ?_
  repeat' (first | (refine Two.mk ?_ ?_ <;> intro _) | (guard_target =~ CallN_; first | refine RunU.cons (sC_ (hC) (.sh (.sh .nil)) (.shAgg rfl gA_ (.sh wS_ .nil)) rfl) ?_ | refine RunU.cons (sC_ (hH) (.sh (.sh .nil)) (.sh wS_ (.sh wS_ .nil)) rfl) ?_) | refine goA ?_ | refine nxA ?_ | refine Done.ret (.one rA_ .nil) (.sh (.sh (.sh .nil))) ?_ rfl)
  all_goals try (exfalso; omega)
  refine WpA.loop_ids2 (fun s i8 i9 => [(2, vGI k), (8, .own i8 (.sl true 1 (ints p))), (9, .own i9 (.sl true 1 (ints (P.take (s + 1))))), (10, vGI (P.getD s 0))]) (fun s => s < P.length) (fun s => P.length - s) 0 _ _ hPn ⟨rfl, xR_, by exact own_ints hP1.symm, int_eq hP0.symm, trivial⟩ ?_
  intro s i8 i9 st nx hs
  have hPw : P.length ≤ w.length := by rw [← hP]; simpa using hPl
  have htl : (P.take (s + 1)).length ≤ 1000 := by rw [List.length_take]; omega
  have hxr := hPr _ (getD_mem hs)
  by_cases hlt : s + 1 < P.length
  ·have e1 := hnx s hlt
   rw [← Nat.mul_one (P.getD s 0).toNat] at e1
   have e2 : P.getD s 0 ≠ k := fun e => by
    have := nodup_at hnd hs (show P.length - 1 < P.length by omega) (e.trans hla.symm)
    omega
   have e3 : P.take (s + 1) ++ [p.getD ((P.getD s 0).toNat * 1) 0] = P.take (s + 1 + 1) := by
    rw [e1, List.take_add_one (i := s + 1), List.getElem?_eq_getElem hlt]
    simp [List.getD, hlt]
   clear hC hH hPr hnx
   repeat' (first | (refine Two.mk ?_ ?_ <;> intro _) | refine goA ?_ | refine nxA ?_ | refine Done.ret (.one rA_ .nil) (.sh (.sh (.sh .nil))) ?_ rfl)
   all_goals try (exfalso; omega)
   exact ⟨s + 1, hlt, ⟨_, _, rfl, rfl, by exact own_ints e3, int_eq e1, trivial⟩, by omega⟩
  ·have es : s = P.length - 1 := by omega
   have e2 : P.getD s 0 = k := by rw [es]; exact hla
   have e3 : P.take (s + 1) = P := List.take_of_length_le (by omega)
   rw [e3]
   clear hC hH hPr hnx
   repeat' (first | (refine Two.mk ?_ ?_ <;> intro _) | refine goA ?_ | refine nxA ?_ | refine Done.ret (.one rA_ .nil) (.sh (.sh (.sh .nil))) ?_ rfl)
   all_goals try (exfalso; omega)
   all_goals rfl
 ·have hmem : ¬ i ∈ ordF w.length E k := fun h => hb ((hO.mem i).1 h)
  rw [pth_none hg hi hb]
  rw [decide_eq_false hmem] at hH
  generalize ordF w.length E k = o at *
  generalize parF w.length E k = p at *
  clear hO
  refine cA_ _ Tryz.func70 rfl Tryz.ntmps70 sO_ ?_
  repeat' (first | (refine Two.mk ?_ ?_ <;> intro _) | (guard_target =~ CallN_; first | refine RunU.cons (sC_ (hC) (.sh (.sh .nil)) (.shAgg rfl gA_ (.sh wS_ .nil)) rfl) ?_ | refine RunU.cons (sC_ (hH) (.sh (.sh .nil)) (.sh wS_ (.sh wS_ .nil)) rfl) ?_) | refine goA ?_ | refine nxA ?_ | refine Done.ret (.one rA_ .nil) (.sh (.sh (.sh .nil))) ?_ rfl)
  all_goals try (exfalso; omega)
  all_goals rfl
def dS (f : List Int) : List Int → Int → Option Int
 | [], d => some d
 | v :: l, d => if (tms d (f.getD v.toNat 0)).2 = true then dS f l (tms d (f.getD v.toNat 0)).1 else none
theorem dS_append (f : List Int) : ∀ (l m : List Int) (d : Int), dS f (l ++ m) d = (dS f l d).bind fun e => dS f m e
 | [], m, d => rfl
 | v :: l, m, d => by
  simp only [List.cons_append, dS]
  split
  ·exact dS_append f l m _
  ·rfl
theorem dS_le (f : List Int) : ∀ (l : List Int) (d e : Int), d.natAbs ≤ 1000000000000 → dS f l d = some e → e.natAbs ≤ 1000000000000
 | [], d, e, h, h2 => by
  simp only [dS, Option.some.injEq] at h2
  rw [← h2]; exact h
 | v :: l, d, e, h, h2 => by
  simp only [dS] at h2
  split at h2
  ·exact dS_le f l _ e tms_le h2
  ·cases h2
noncomputable def detS (w : List Int) (E : List (List Int)) : Int × Bool :=
 if brB w E = true then match dS (fL w E) (rts w E w.length) 1 with
  | some d => (d, true)
  | none => (0, false)
 else (0, false)
theorem detT_false (f : List Int) : ∀ (l : List Int) (d : Int), l.foldl (detT f) (d, false) = (d, false)
 | [], _ => rfl
 | v :: l, d => by
  rw [List.foldl_cons, show detT f (d, false) v = (d, false) by unfold detT; rw [if_neg (by simp)]]
  exact detT_false f l d
theorem detT_dS (f : List Int) : ∀ (l : List Int) (d : Int), (∀ e, dS f l d = some e → l.foldl (detT f) (d, true) = (e, true)) ∧ (dS f l d = none → (l.foldl (detT f) (d, true)).2 = false)
 | [], d => by simp [dS]
 | v :: l, d => by
  rw [List.foldl_cons, show detT f (d, true) v = tms d (f.getD v.toNat 0) by unfold detT; rw [if_pos rfl]]
  simp only [dS]
  have ih := detT_dS f l (tms d (f.getD v.toNat 0)).1
  cases h : (tms d (f.getD v.toNat 0)).2 with
  | true =>
   have e : tms d (f.getD v.toNat 0) = ((tms d (f.getD v.toNat 0)).1, true) := by rw [← h]
   rw [e]
   simpa using ih
  | false =>
   have e : tms d (f.getD v.toNat 0) = ((tms d (f.getD v.toNat 0)).1, false) := by rw [← h]
   rw [e, detT_false]
   simp
theorem det_eq {w : List Int} {E : List (List Int)} (hg : IsGr w E) : (detI w E).2 = (detS w E).2 ∧ ((detI w E).2 = true → (detI w E).1 = (detS w E).1) := by
 have hL := visR_large hg
 have hro := visR_rts hg w.length (Nat.le_refl _)
 unfold detI detS
 by_cases hb : brOk w E
 ·have hl := hL.2 hb
  rw [if_pos ((brB_iff w E).2 hb), hl, hro, (visR_f hg hb).1]
  have key := detT_dS (fL w E) (rts w E w.length) 1
  cases hd : dS (fL w E) (rts w E w.length) 1 with
  | some d =>
   rw [show (1, !false) = ((1 : Int), true) from rfl, key.1 d hd]
   exact ⟨rfl, fun _ => rfl⟩
  | none =>
   rw [show (1, !false) = ((1 : Int), true) from rfl, key.2 hd]
   exact ⟨rfl, fun h => by cases h⟩
 ·have hl : (visR w E w.length).1.large = true := by
   cases h : (visR w E w.length).1.large with
   | true => rfl
   | false => exact absurd (hL.1 h) hb
  rw [if_neg (fun h => hb ((brB_iff w E).1 h)), hl, show (1, !true) = ((1 : Int), false) from rfl, detT_false]
  exact ⟨rfl, fun h => by cases h⟩
theorem fL_le {w : List Int} {E : List (List Int)} (hg : IsGr w E) (hb : brOk w E) : ∀ i, -1000000000000 ≤ (fL w E).getD i 0 ∧ (fL w E).getD i 0 ≤ 1000000000000 := by
 have := (visR_inv (E := E) hg.wall w.length).2.1
 rw [(visR_f hg hb).1] at this
 exact this
theorem l11Det_c (w : List Int) (E : List (List Int)) (hg : IsGr w E) : CallA Tryz.prog 165 [aGr w E] [rI (detS w E).1, rB (detS w E).2] [] := by
 have hlen := hg.1
 have hB := branches_c w E hg
 unfold detS
 by_cases hb : brOk w E
 ·have hb2 := (brB_iff w E).2 hb
  have hfb := fL_le hg hb
  have hfl := fL_len w E
  rw [show fR w E = fL w E from if_pos hb2, show gR w E = gL w E from if_pos hb2, hb2] at hB
  rw [if_pos hb2]
  have hcl := cmpL_len w E
  generalize hfL : fL w E = f at *
  generalize gL w E = g at *
  refine cA_ _ Tryz.func165 rfl Tryz.ntmps165 sO_ ?_
  repeat' (first | (refine Two.mk ?_ ?_ <;> intro _) | (guard_target =~ CallN_; first | refine RunU.cons (sC_ (hB) (.sh .nil) (.shAgg rfl gA_ .nil) rfl) ?_ | refine RunU.cons (sC_ (specLabels_c w E hg) (.sh .nil) (.shAgg rfl gA_ .nil) rfl) ?_) | refine goA ?_ | refine nxA ?_ | refine Done.ret (.one rA_ (.one rA_ .nil)) (.sh .nil) ?_ rfl)
  all_goals try (exfalso; omega)
  refine loop_slots3 (α := Nat) (β := Int × Nat × Nat) (fun v q => [(4, .own q.2.1 (.sl true 1 (ints f))), (7, .own q.2.2 (.sl true 1 (ints (cmpL w E)))), (8, vGI q.1), (9, vGI v)]) (fun v q => v ≤ w.length ∧ dS f (rts w E v) 1 = some q.1) (fun v _ => w.length - v) 0 (1, _, _) ⟨by omega, rfl⟩ ⟨xR_, xR_, rfl, rfl, trivial⟩ ?_
  rintro v ⟨d, i4, i7⟩ s nx ⟨hv, hd⟩
  simp only at hd
  dsimp only
  have hdl := dS_le f _ 1 d (by decide) hd
  by_cases hlt : v < w.length
  ·have hix := ix_lab hg hlt
   rw [← Nat.mul_one v] at hix
   have hI := index_c (cmpL w E) ((cmpL w E).getD (v * 1) 0) (by omega)
   have hrt : rts w E (v + 1) = if labOf w E v = v then rts w E v ++ [(v : Int)] else rts w E v := rfl
   by_cases hr : labOf w E v = v
   ·have hix2 : ixF (cmpL w E) ((cmpL w E).getD (v * 1) 0) = v := by rw [hix, Nat.mul_one]; exact hr
    rw [hix2] at hI
    rw [if_pos hr] at hrt
    have hfv := hfb (v * 1)
    have hT := l11Times_c d (f.getD (v * 1) 0) (by omega) hfv
    have hnext : dS f (rts w E (v + 1)) 1 = if (tms d (f.getD (v * 1) 0)).2 = true then some (tms d (f.getD (v * 1) 0)).1 else none := by
     rw [hrt, dS_append, hd]
     simp only [Option.bind_some, dS, Int.toNat_natCast, Nat.mul_one]
    generalize hLB : cmpL w E = LB at *
    clear hix hix2 hfb
    cases ho : (tms d (f.getD (v * 1) 0)).2 with
    | true =>
     rw [ho] at hT hnext
     rw [if_pos rfl] at hnext
     repeat' (first | (refine Two.mk ?_ ?_ <;> intro _) | (guard_target =~ CallN_; first | refine RunU.cons (sC_ (hI) (.sh (.sh .nil)) (.sh wS_ (.sh wS_ .nil)) rfl) ?_ | refine RunU.cons (sC_ (hT) (.sh (.sh .nil)) (.sh wS_ (.sh wS_ .nil)) rfl) ?_) | refine goA ?_ | refine nxA ?_ | refine Done.ret (.one rA_ (.one rA_ .nil)) (.sh .nil) ?_ rfl)
     all_goals try (exfalso; omega)
     exact ⟨v + 1, (_, _, _), ⟨by omega, hnext⟩, ⟨rfl, rfl, rfl, int_eq (by omega), trivial⟩, by omega⟩
    | false =>
     rw [ho] at hT hnext
     rw [if_neg (by decide)] at hnext
     have hnone : dS f (rts w E w.length) 1 = none := by
      have key : ∀ m, v + 1 ≤ m → dS f (rts w E m) 1 = none := by
       intro m
       induction m with
       | zero => intro h; omega
       | succ m ih =>
        intro h
        by_cases e : m = v
        ·rw [e]; exact hnext
        ·have ih := ih (by omega)
         rw [show rts w E (m + 1) = if labOf w E m = m then rts w E m ++ [(m : Int)] else rts w E m from rfl]
         split
         ·rw [dS_append, ih]; rfl
         ·exact ih
      exact key w.length (by omega)
     rw [hnone]
     repeat' (first | (refine Two.mk ?_ ?_ <;> intro _) | (guard_target =~ CallN_; first | refine RunU.cons (sC_ (hI) (.sh (.sh .nil)) (.sh wS_ (.sh wS_ .nil)) rfl) ?_ | refine RunU.cons (sC_ (hT) (.sh (.sh .nil)) (.sh wS_ (.sh wS_ .nil)) rfl) ?_) | refine goA ?_ | refine nxA ?_ | refine Done.ret (.one rA_ (.one rA_ .nil)) (.sh .nil) ?_ rfl)
     all_goals first | rfl | (exfalso; omega)
   ·have hix2 : ixF (cmpL w E) ((cmpL w E).getD (v * 1) 0) ≠ v := by rw [hix, Nat.mul_one]; exact hr
    rw [if_neg hr] at hrt
    rw [← hrt] at hd
    generalize hLB : cmpL w E = LB at *
    clear hix hfb
    repeat' (first | (refine Two.mk ?_ ?_ <;> intro _) | (guard_target =~ CallN_; first | refine RunU.cons (sC_ (hI) (.sh (.sh .nil)) (.sh wS_ (.sh wS_ .nil)) rfl) ?_) | refine goA ?_ | refine nxA ?_ | refine Done.ret (.one rA_ (.one rA_ .nil)) (.sh .nil) ?_ rfl)
    all_goals try (exfalso; omega)
    exact ⟨v + 1, (d, _, _), ⟨by omega, hd⟩, ⟨rfl, rfl, rfl, int_eq (by omega), trivial⟩, by omega⟩
  ·have ev : v = w.length := by omega
   subst ev
   rw [hd]
   clear hfb
   repeat' (first | (refine Two.mk ?_ ?_ <;> intro _) | refine goA ?_ | refine nxA ?_ | refine Done.ret (.one rA_ (.one rA_ .nil)) (.sh .nil) ?_ rfl)
   all_goals try (exfalso; omega)
   all_goals rfl
 ·have hb2 : ¬ brB w E = true := fun h => hb ((brB_iff w E).1 h)
  have hb3 : brB w E = false := by simpa using hb2
  rw [show fR w E = [] from if_neg hb2, show gR w E = [] from if_neg hb2, hb3] at hB
  rw [if_neg hb2]
  refine cA_ _ Tryz.func165 rfl Tryz.ntmps165 sO_ ?_
  repeat' (first | (refine Two.mk ?_ ?_ <;> intro _) | (guard_target =~ CallN_; first | refine RunU.cons (sC_ (hB) (.sh .nil) (.shAgg rfl gA_ .nil) rfl) ?_ | refine RunU.cons (sC_ (specLabels_c w E hg) (.sh .nil) (.shAgg rfl gA_ .nil) rfl) ?_) | refine goA ?_ | refine nxA ?_ | refine Done.ret (.one rA_ (.one rA_ .nil)) (.sh .nil) ?_ rfl)
  all_goals first | rfl | (exfalso; omega)
end Go.Proofs.YtmgmpnhlehonmaaGreat
namespace Go.Proofs.YtmgmpnhlehonmaaGreat
open Go.Shelf
def bitsMul_ren : Go.Shelf.Ren := ⟨fun | 212 => 166 | 263 => 185 | 264 => 186 | n => n, fun | 46 => 116 | 51 => 169 | 146 => 170 | 53 => 63 | 148 => 172 | n => n, fun | n => n⟩
theorem bitsMul : Go.Proofs.Lays.n212 Tryz.prog bitsMul_ren := {
 mixed := by kernel_rfl
 f212 := Tryz.func166.trans (congrArg some (by kernel_rfl))
 f263 := Tryz.func185.trans (congrArg some (by kernel_rfl))
 f264 := Tryz.func186.trans (congrArg some (by kernel_rfl))
 t46 := Tryz.underlying116
 a46 := Tryz.isAgg116
 z46 := Tryz.sizeOf116
 v46 := Tryz.zeroValue116
 t51 := Tryz.underlying169
 a51 := Tryz.isAgg169
 z51 := Tryz.sizeOf169
 v51 := Tryz.zeroValue169
 t53 := Tryz.underlying63
 a53 := Tryz.isAgg63
 z53 := Tryz.sizeOf63
 v53 := Tryz.zeroValue63
 t146 := Tryz.underlying170
 a146 := Tryz.isAgg170
 z146 := Tryz.sizeOf170
 v146 := Tryz.zeroValue170
 t148 := Tryz.underlying172
 a148 := Tryz.isAgg172
 z148 := Tryz.sizeOf172
 v148 := Tryz.zeroValue172 }
end Go.Proofs.YtmgmpnhlehonmaaGreat
