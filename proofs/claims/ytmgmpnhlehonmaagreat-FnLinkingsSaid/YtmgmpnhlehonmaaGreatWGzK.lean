/- Products along paths, by the program and by the reference: the same where all splice weights are within the limit. No condition. -/
import Derived.Test.YtmgmpnhlehonmaaGreatWGzI
set_option linter.unusedVariables false
set_option linter.unusedSimpArgs false
namespace Go.Proofs.YtmgmpnhlehonmaaGreat
set_option maxRecDepth 100000
set_option maxHeartbeats 20000000
open Go.Pv
open Go.ChangeShapes Go.WideShapes Go.ChangeAt Go.RowKit
attribute [local irreducible] Za WpA Zg Xf Zz Z6 Zd
instance fnOk15 : Zs Tryz.prog 15 := ⟨_, Tryz.func15, rfl, by decide⟩
instance fnOk16 : Zs Tryz.prog 16 := ⟨_, Tryz.func16, rfl, by decide⟩
def ppF (f : Int -> Int -> Int × Bool) (E : List (List Int)) (P : List Int) : List Int -> Int -> Int × Int
 | [], n => (n, 0)
 | a :: l, n => if (Ue (f a) P (Zf E a) n).2 = true then ppF f E P l (Ue (f a) P (Zf E a) n).1 else (0, 3)
theorem Zoe {f : Int -> Int -> Int × Bool} {E : List (List Int)} {P l : List Int} {j : Nat} (h : j < l.length) (n : Int) : ppF f E P (l.drop j) n = if (Ue (f (l.getD j 0)) P (Zf E (l.getD j 0)) n).2 = true then ppF f E P (l.drop (j + 1)) (Ue (f (l.getD j 0)) P (Zf E (l.getD j 0)) n).1 else (0, 3) := by
 rw [List.drop_eq_getElem_cons h, ppF]
 simp [List.getD, h]
def ppR (w : List Int) (E : List (List Int)) (i k : Int) : Int × Int := if Y2 w E [i, k] = 0 then ppF (fun a x => Xy w E (bhL w E a x)) E (pth w E i k) (pth w E i k) 1 else (0, Y2 w E [i, k])
theorem Zig {f : Int -> Int × Bool} {P : List Int} : ∀ (l : List Int) (n : Int), (Ue f P l n).2 = true -> (Ue f P l n).1 = n * Y5 (fun x => (f x).1) (l.filter fun b => decide (b ∉ P))
 | [], n, _ => by simp [Ue, Y5]
 | x :: l, n, h => by
  rw [Ue] at h ⊢
  rw [List.filter_cons]
  by_cases hx : x ∈ P
  ·rw [if_pos hx] at h ⊢
   rw [if_neg (show ¬ decide (x ∉ P) = true from fun q => of_decide_eq_true q hx)]
   exact Zig l n h
  ·rw [if_neg hx] at h ⊢
   rw [if_pos (show decide (x ∉ P) = true from decide_eq_true hx)]
   split at h
   ·rename_i h1
    rw [if_pos h1]
    split at h
    ·rename_i h2
     rw [if_pos h2, Zig l _ h, Up h2, Y5, Int.mul_assoc]
    ·simp at h
   ·simp at h
theorem Zrp {f : Int -> Int -> Int × Bool} {E : List (List Int)} {P : List Int} : ∀ (l : List Int) (n : Int), (ppF f E P l n).2 = 0 -> (ppF f E P l n).1 = n * qqL (fun a b => (f a b).1) E P l
 | [], n, _ => by simp [ppF, qqL]
 | a :: l, n, h => by
  rw [ppF] at h ⊢
  split at h
  ·rename_i h1
   rw [if_pos h1, Zrp l _ h, Zig _ _ h1, qqL, Int.mul_assoc]
  ·simp at h
theorem Xax {w : List Int} {E : List (List Int)} {i k : Int} (hT : TB w) (h1 : (lkN w E i k).2 = 0) (h2 : (ppR w E i k).2 = 0) : (lkN w E i k).1 = (ppR w E i k).1 := by
 obtain ⟨hg, he, hi, hk, e⟩ := Zzv h1
 rw [e, Zyt hg he hT hi hk]
 unfold ppR at h2 ⊢
 split at h2
 ·rename_i hc
  rw [if_pos hc, Zrp _ _ h2, Int.one_mul]
 ·rename_i hc; exact absurd h2 hc
theorem Zwc (w : List Int) (E : List (List Int)) (i k : Int) (hw : w.length <= 2000000) (hE : E.length <= 2000000) : Zj Tryz.prog 15 [aGr w E, aI i, aI k] [rI (ppR w E i k).1, rI (ppR w E i k).2] [] := by
 unfold ppR
 by_cases h : Y2 w E [i, k] = 0
 ·have hC := Ut w E [i, k] (by simp) h
  rw [if_pos h]
  obtain ⟨hg, hall, hcn⟩ := Ye h
  obtain ⟨hi, hk⟩ := Hl hall
  have hlen := hg.1
  have hQ := Zbb hg k w.length i [] trivial hi (by simp)
  rw [show pf E k w.length i (([] : List Int).headD (-1)) = pth w E i k from rfl] at hQ
  have hp := Zll hg hcn hi hk
  have hin : ∀ j, j < (pth w E i k).length -> 0 <= (pth w E i k).getD (j * 1) 0 /\ (pth w E i k).getD (j * 1) 0 < w.length := fun j hj => by
   obtain ⟨l, e2⟩ := List.head?_eq_some_iff.1 hp.hd
   have hn := hp.nb
   rw [Nat.mul_one]
   have hm := Z4 hj
   rw [e2] at hn hm ⊢
   exact hn.range hg.2.2.1 hi _ hm
  have hpl : (pth w E i k).length <= w.length := by
   obtain ⟨l, e2⟩ := List.head?_eq_some_iff.1 hp.hd
   have hn := hp.nb
   rw [e2] at hn ⊢
   have := hn.len hg hi
   simpa using this
  obtain ⟨x, l, e⟩ := List.exists_cons_of_ne_nil (Zlk hg hcn hi hk)
  rw [e, show Zuc (x :: l) = rL (x :: l) from rfl, <- e] at hQ
  clear e hp
  generalize pth w E i k = P at *
  have hPr := fun (n v : Int) (hn : -1000000000000 <= n /\ n <= 1000000000000) (hv : 0 <= v /\ v < w.length) => Zie w E n v P j2 hg hcn hn hv
  have hPl := fun (v n : Int) (hn : -1000000000000 <= n /\ n <= 1000000000000) => Zly (f := fun x => Xy w E (bhL w E v x)) (P := P) (Zf E v) n hn
  have h0 : ppF (fun a x => Xy w E (bhL w E a x)) E P P 1 = ppF (fun a x => Xy w E (bhL w E a x)) E P (P.drop 0) 1 := by rw [List.drop_zero]
  generalize hV : ppF (fun a x => Xy w E (bhL w E a x)) E P P 1 = V at *
  clear hV
  refine cA_ _ Tryz.func15 rfl Tryz.ntmps15 sO_ ?_
  repeat' (first | (refine w2_ ?_ ?_ <;> intro _) | (guard_target =~ AtN 30; refine Za.cons (sC_ (hQ) (.sh (.sh (.sh (.sh .nil)))) (.sh wS_ (.sh wS_ (.sh wS_ (.sh wS_ .nil)))) rfl) ?_) | (guard_target =~ Zh; first | refine Za.cons (Z2 (hC) (.sh (.mv vA_ .nil)) (.sh (.agg rfl j5) (.mv .nil)) rfl) ?_) | refine a2_ ?_|fail)
  all_goals try (exfalso; simp_all; done)
  clear hC hQ
  refine WpA.loop_slots (ι := Nat × Int × Nat × Nat) (fun q => [(8, .own q.2.2.1 (.pt true [.sl false 1 (Ze w), .sl false 1 (LLs E), .sl true 1 (LL (nbL E w.length))])), (10, .own q.2.2.2 (.sl true 1 (Ze P))), (11, vGI q.2.1), (31, .als 10 q.2.2.2 []), (32, vGI P.length), (33, vGI q.1)]) (fun q => q.1 <= P.length /\ (-1000000000000 <= q.2.1 /\ q.2.1 <= 1000000000000) /\ V = ppF (fun a x => Xy w E (bhL w E a x)) E P (P.drop q.1) q.2.1) (fun q => P.length - q.1) (0, 1, _, _) ⟨by simp, by simp, h0⟩ ⟨by exact rfl, by exact rfl, rfl, by exact rfl, rfl, rfl, trivial⟩ ?_
  clear h0
  rintro ⟨j, m, i8, i10⟩ st nx ⟨hj, hm, hq⟩
  simp only at hj hm hq
  dsimp only
  by_cases hlt : j < P.length
  ·have hv := hin j hlt
   have hPj := hPr m (P.getD (j * 1) 0) hm hv
   have hPm := hPl (P.getD (j * 1) 0) m hm
   rw [Zoe hlt] at hq
   simp only [Nat.mul_one] at hPj hPm hv
   generalize Ue (fun x => Xy w E (bhL w E (P.getD j 0) x)) P (Zf E (P.getD j 0)) m = r at *
   obtain ⟨t, b⟩ := r
   dsimp only at hPj hPm hq
   rw [show P.getD j 0 = P.getD (j * 1) 0 by rw [Nat.mul_one]] at hPj
   clear hin hPr hPl hv
   cases b with
   | true =>
    rw [if_pos rfl] at hq
    repeat' (first | (refine w2_ ?_ ?_ <;> intro _) | (guard_target =~ Zh; first | refine Za.cons (sC_ (hPj) (.sh (.sh (.sh (.sh .nil)))) (.shAgg rfl gA_ (.sh wS_ (.sh wS_ (.sh wS_ .nil)))) rfl) ?_) | refine a2_ ?_|fail)
    all_goals try (exfalso; omega)
    all_goals try (exfalso; simp_all; done)
    all_goals exact ⟨(j + 1, t, _, _), ⟨by simp only; omega, hPm, hq⟩, ⟨by exact rfl, by exact rfl, rfl, by exact rfl, rfl, Zb p9, trivial⟩, by simp only; omega⟩
   | false =>
    rw [if_neg (by simp)] at hq
    subst hq
    repeat' (first | (refine w2_ ?_ ?_ <;> intro _) | (guard_target =~ Zh; first | refine Za.cons (sC_ (hPj) (.sh (.sh (.sh (.sh .nil)))) (.shAgg rfl gA_ (.sh wS_ (.sh wS_ (.sh wS_ .nil)))) rfl) ?_) | refine a2_ ?_|fail)
    all_goals first | rfl | (exfalso; omega) | (exfalso; simp_all; done)
  ·obtain rfl : j = P.length := by omega
   rw [List.drop_length] at hq
   subst hq
   clear hin hPr hPl
   repeat' (first | (refine w2_ ?_ ?_ <;> intro _) | refine a2_ ?_|fail)
   all_goals first | rfl | (exfalso; omega)
 ·have hC := Ub w E [i, k] hw hE (by simp) h
  rw [if_neg h]
  generalize Y2 w E [i, k] = c at *
  refine cA_ _ Tryz.func15 rfl Tryz.ntmps15 sO_ ?_
  repeat' (first | (refine w2_ ?_ ?_ <;> intro _) | (guard_target =~ Zh; first | refine Za.cons (Z2 (hC) (.sh (.mv vA_ .nil)) (.sh (.agg rfl j5) (.mv .nil)) rfl) ?_) | refine a2_ ?_|fail)
  all_goals first | rfl | (exfalso; simp_all; done) | (exfalso; omega)
theorem Zwd (w : List Int) (E : List (List Int)) (i k : Int) (hw : w.length <= 2000000) (hE : E.length <= 2000000) (hok : Zp w E -> ∀ a c : Int, (0 <= a /\ a < w.length) -> (Xy w E (bhL w E a c)).2 = true) : Zj Tryz.prog 16 [aGr w E, aI i, aI k] [rI (ppR w E i k).1, rI (ppR w E i k).2] [] := by
 have hC := H5 w E [i, k] hw hE (by simp)
 unfold ppR
 by_cases h : Y2 w E [i, k] = 0
 ·rw [if_pos h]
  obtain ⟨hg, hall, hcn⟩ := Ye h
  obtain ⟨hi, hk⟩ := Hl hall
  have hok := hok hg
  have hlen := hg.1
  have hfew := hg.few
  have hQ := Zdt w E i k hg hi hk
  have hp := Zll hg hcn hi hk
  have hin : ∀ j, j < (pth w E i k).length -> 0 <= (pth w E i k).getD (j * 1) 0 /\ (pth w E i k).getD (j * 1) 0 < w.length := fun j hj => by
   obtain ⟨l, e2⟩ := List.head?_eq_some_iff.1 hp.hd
   have hn := hp.nb
   rw [Nat.mul_one]
   have hm := Z4 hj
   rw [e2] at hn hm ⊢
   exact hn.range hg.2.2.1 hi _ hm
  have hpl : (pth w E i k).length <= w.length := by
   obtain ⟨l, e2⟩ := List.head?_eq_some_iff.1 hp.hd
   have hn := hp.nb
   rw [e2] at hn ⊢
   have := hn.len hg hi
   simpa using this
  have hN := fun v : Int => Zdm w E v j2 (fun j hj => (hg.2.2.1 j hj).1)
  have hnl := fun v : Int => Jh hg.2.2.1 v
  obtain ⟨f, hf⟩ : ∃ f : Int -> Int -> Int × Bool, f = fun a x => Xy w E (bhL w E a x) := ⟨_, rfl⟩
  have hW : ∀ a x : Int, (0 <= a /\ a < w.length) -> Zj Tryz.prog 72 [aGr w E, aI a, aI x] [rI (f a x).1, rB true] [] := fun a x ha => by
   have h1 := Zen w E a x hg hcn ha
   obtain ⟨s1, s2⟩ := Zdw hg (bhL w E a x)
   rw [<- s1, <- s2 (hok a x ha), hok a x ha] at h1
   rw [hf]; exact h1
  have hf2 : ∀ a x : Int, (0 <= a /\ a < w.length) -> (f a x).2 = true := fun a x ha => by rw [hf]; exact hok a x ha
  have hfl : ∀ a x : Int, -1000000000000 <= (f a x).1 /\ (f a x).1 <= 1000000000000 := fun a x => by rw [hf]; exact Zco _ _ _
  rw [<- hf]
  rw [h] at hC
  clear hf hall hok hp
  generalize pth w E i k = P at *
  have hH := fun x : Int => Zhi P x j2
  have h0 : ppF f E P P 1 = ppF f E P (P.drop 0) 1 := by rw [List.drop_zero]
  generalize hV : ppF f E P P 1 = V at *
  clear hV
  refine cA_ _ Tryz.func16 rfl Tryz.ntmps16 sO_ ?_
  repeat' (first | (refine w2_ ?_ ?_ <;> intro _) | (guard_target =~ AtN 29; refine Za.cons (sC_ (hQ) (.sh (.sh (.sh .nil))) (.shAgg rfl gA_ (.sh wS_ (.sh wS_ .nil))) rfl) ?_) | (guard_target =~ Zh; first | refine Za.cons (sC_ (hC) (.sh (.sh .nil)) (.shAgg rfl gA_ (.sh wS_ .nil)) rfl) ?_) | refine a2_ ?_|fail)
  all_goals try (exfalso; simp_all; done)
  clear hC hQ
  refine WpA.loop_slots (ι := Nat × Int × Nat) (fun q => [(3, .own 3 (.pt true [.sl false 1 (Ze w), .sl false 1 (LLs E)])), (9, .own q.2.2 (.sl true 1 (Ze P))), (10, vGI q.2.1), (11, vGI q.1)]) (fun q => q.1 <= P.length /\ (-1000000000000 <= q.2.1 /\ q.2.1 <= 1000000000000) /\ V = ppF f E P (P.drop q.1) q.2.1) (fun q => P.length - q.1) (0, 1, _) ⟨by simp, by simp, h0⟩ ⟨by exact rfl, by exact rfl, rfl, rfl, trivial⟩ ?_
  clear h0
  rintro ⟨j, m0, i9⟩ st nx ⟨hj, hm0, hq⟩
  simp only at hj hm0 hq
  dsimp only
  by_cases hlt : j < P.length
  ·have hv := hin j hlt
   have hNj := hN (P.getD (j * 1) 0)
   have hnj := hnl (P.getD (j * 1) 0)
   have hWj := fun x => hW (P.getD (j * 1) 0) x hv
   have hfj := fun x => hfl (P.getD (j * 1) 0) x
   have hf2j := fun x => hf2 (P.getD (j * 1) 0) x hv
   rw [Zoe hlt, show P.getD j 0 = P.getD (j * 1) 0 by rw [Nat.mul_one]] at hq
   clear hin hN hnl hW hfl hf2
   generalize f (P.getD (j * 1) 0) = g at *
   generalize Zf E (P.getD (j * 1) 0) = R at *
   have h1 : Ue g P R m0 = Ue g P (R.drop 0) m0 := by rw [List.drop_zero]
   generalize hr : Ue g P R m0 = r at *
   clear hr
   repeat' (first | (refine w2_ ?_ ?_ <;> intro _) | (guard_target =~ AtN 41; refine Za.cons (sC_ (hNj) (.sh (.sh .nil)) (.shAgg rfl gA_ (.sh wS_ .nil)) rfl) ?_) | refine a2_ ?_|fail)
   all_goals try (exfalso; omega)
   refine WpA.loop_slots (ι := Nat × Int × Nat × Nat) (fun q => [(3, .own 3 (.pt true [.sl false 1 (Ze w), .sl false 1 (LLs E)])), (9, .own q.2.2.1 (.sl true 1 (Ze P))), (10, vGI q.2.1), (11, vGI j), (12, .own q.2.2.2 (.sl true 1 (Ze R))), (13, vGI q.1)]) (fun q => q.1 <= R.length /\ (-1000000000000 <= q.2.1 /\ q.2.1 <= 1000000000000) /\ r = Ue g P (R.drop q.1) q.2.1) (fun q => R.length - q.1) (0, m0, _, _) ⟨by simp, hm0, h1⟩ ⟨by exact rfl, by exact rfl, rfl, rfl, by exact rfl, rfl, trivial⟩ ?_
   clear h1 hm0 hNj
   rintro ⟨b, m, i9, i12⟩ st nx ⟨hb, hm, hrr⟩
   simp only at hb hm hrr
   dsimp only
   by_cases hbl : b < R.length
   ·have hWb := hWj (R.getD (b * 1) 0)
    have hfb := hfj (R.getD (b * 1) 0)
    have hf2b := hf2j (R.getD (b * 1) 0)
    have hHb := hH (R.getD (b * 1) 0)
    rw [Zkf hbl, show R.getD b 0 = R.getD (b * 1) 0 by rw [Nat.mul_one], if_pos hf2b] at hrr
    have hT := Yn m (g (R.getD (b * 1) 0)).1 hm hfb
    have hTl := Vu (a := m) (b := (g (R.getD (b * 1) 0)).1)
    generalize tms m (g (R.getD (b * 1) 0)).1 = T at *
    generalize (g (R.getD (b * 1) 0)).1 = d at *
    obtain ⟨t, c⟩ := T
    dsimp only at hT hTl hrr
    clear hWj hfj hf2j hH hf2b
    by_cases hx : R.getD (b * 1) 0 ∈ P
    ·rw [decide_eq_true hx] at hHb
     rw [if_pos hx] at hrr
     clear hx
     repeat' (first | (refine w2_ ?_ ?_ <;> intro _) | (guard_target =~ AtN 58; refine Za.cons (sC_ (hWb) (.sh (.sh (.sh .nil))) (.shAgg rfl gA_ (.sh wS_ (.sh wS_ .nil))) rfl) ?_) | (guard_target =~ AtN 68; refine Za.cons (sC_ (hHb) (.sh (.sh .nil)) (.sh wS_ (.sh wS_ .nil)) rfl) ?_) | refine a2_ ?_|fail)
     all_goals try (exfalso; omega)
     all_goals try (exfalso; simp_all; done)
     all_goals exact ⟨(b + 1, m, _, _), ⟨by simp only; omega, hm, hrr⟩, ⟨rfl, by exact rfl, rfl, rfl, by exact rfl, Zb p9, trivial⟩, by simp only; omega⟩
    ·rw [decide_eq_false hx] at hHb
     rw [if_neg hx] at hrr
     clear hx
     cases c with
     | true =>
      rw [if_pos rfl] at hrr
      repeat' (first | (refine w2_ ?_ ?_ <;> intro _) | (guard_target =~ AtN 58; refine Za.cons (sC_ (hWb) (.sh (.sh (.sh .nil))) (.shAgg rfl gA_ (.sh wS_ (.sh wS_ .nil))) rfl) ?_) | (guard_target =~ AtN 68; refine Za.cons (sC_ (hHb) (.sh (.sh .nil)) (.sh wS_ (.sh wS_ .nil)) rfl) ?_) | (guard_target =~ AtN 72; refine Za.cons (sC_ (hT) (.sh (.sh .nil)) (.sh wS_ (.sh wS_ .nil)) rfl) ?_) | refine a2_ ?_|fail)
      all_goals try (exfalso; omega)
      all_goals try (exfalso; simp_all; done)
      all_goals exact ⟨(b + 1, t, _, _), ⟨by simp only; omega, by simp only; omega, hrr⟩, ⟨rfl, by exact rfl, rfl, rfl, by exact rfl, Zb p9, trivial⟩, by simp only; omega⟩
     | false =>
      rw [if_neg (by simp)] at hrr
      subst hrr
      rw [if_neg (by simp)] at hq
      subst hq
      repeat' (first | (refine w2_ ?_ ?_ <;> intro _) | (guard_target =~ AtN 58; refine Za.cons (sC_ (hWb) (.sh (.sh (.sh .nil))) (.shAgg rfl gA_ (.sh wS_ (.sh wS_ .nil))) rfl) ?_) | (guard_target =~ AtN 68; refine Za.cons (sC_ (hHb) (.sh (.sh .nil)) (.sh wS_ (.sh wS_ .nil)) rfl) ?_) | (guard_target =~ AtN 72; refine Za.cons (sC_ (hT) (.sh (.sh .nil)) (.sh wS_ (.sh wS_ .nil)) rfl) ?_) | refine a2_ ?_|fail)
      all_goals first | rfl | (exfalso; omega) | (exfalso; simp_all; done)
   ·obtain rfl : b = R.length := by omega
    rw [List.drop_length, Ue] at hrr
    subst hrr
    rw [if_pos rfl] at hq
    clear hWj hfj hf2j hH
    repeat' (first | (refine w2_ ?_ ?_ <;> intro _) | refine a2_ ?_|fail)
    all_goals try (exfalso; omega)
    all_goals exact ⟨(j + 1, m, _), ⟨by simp only; omega, hm, hq⟩, ⟨rfl, by exact rfl, rfl, Zb p9, trivial⟩, by simp only; omega⟩
  ·obtain rfl : j = P.length := by omega
   rw [List.drop_length] at hq
   subst hq
   clear hin hN hnl hW hfl hf2 hH
   repeat' (first | (refine w2_ ?_ ?_ <;> intro _) | refine a2_ ?_|fail)
   all_goals first | rfl | (exfalso; omega)
 ·rw [if_neg h]
  generalize Y2 w E [i, k] = c at *
  refine cA_ _ Tryz.func16 rfl Tryz.ntmps16 sO_ ?_
  repeat' (first | (refine w2_ ?_ ?_ <;> intro _) | (guard_target =~ Zh; first | refine Za.cons (sC_ (hC) (.sh (.sh .nil)) (.shAgg rfl gA_ (.sh wS_ .nil)) rfl) ?_) | refine a2_ ?_|fail)
  all_goals first | rfl | (exfalso; simp_all; done) | (exfalso; omega)
end Go.Proofs.YtmgmpnhlehonmaaGreat
