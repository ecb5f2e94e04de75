/- Parts of graphs and their determinants, by the program. No condition. -/
import Derived.Test.YtmgmpnhlehonmaaGreatWGrL
import Derived.Test.YtmgmpnhlehonmaaGreatWGrT
import Derived.Shelf.Bits.Mul64
import Derived.Test.YtmgmpnhlehonmaaGreatProg
import Derived.Test.YtmgmpnhlehonmaaGreatWPwC
import Derived.Laws.CopyRow
import Derived.Laws.IdiomCopy
import Derived.Test.YtmgmpnhlehonmaaGreatWGrD
import Derived.Test.YtmgmpnhlehonmaaGreatWGrP
set_option linter.unusedVariables false
set_option linter.unusedSimpArgs false
namespace Go.Proofs.YtmgmpnhlehonmaaGreat
set_option maxHeartbeats 20000000
open Go.Pv
open Go.ChangeShapes Go.WideShapes Go.ChangeAt Go.RowKit
attribute [local irreducible] Za WpA Zg Xf Zz Z6 Zd
instance fnOk70 : Zs Tryz.prog 70 := ⟨_, Tryz.func70, rfl, by decide⟩
instance fnOk165 : Zs Tryz.prog 165 := ⟨_, Tryz.func165, rfl, by decide⟩
theorem Zjz {w : List Int} {E : List (List Int)} (hg : Zp w E) {k : Int} {o p : List Int} (hO : Ord w E k o p) : ∀ (s : Nat) (P q : List Int), NB E P -> P = q ++ [k] -> s + 1 < P.length -> p.getD (P.getD s 0).toNat 0 = P.getD (s + 1) 0
 | 0, P, q, hn, e, hs => by
  match P, hs with
  | x :: y :: l, _ =>
   have hb : Bw E k [] x y := ⟨y :: l, q, hn, e, rfl⟩
   exact (hO.par x ((hO.mem x).2 ⟨y, hb⟩)).uniq hg.forest hb
 | s + 1, P, q, hn, e, hs => by
  match P, q, hs, e with
  | x :: P, z :: q, hs, e =>
   obtain ⟨rfl, e'⟩ := List.cons.inj e
   have := Zjz hg hO s P q hn.tail e' (by simpa using hs)
   simpa using this
  | x :: P, [], hs, e =>
   obtain ⟨_, e'⟩ := List.cons.inj e
   subst e'
   simp at hs
theorem Zsh {P q : List Int} {k : Int} (e : P = q ++ [k]) : P.getD (P.length - 1) 0 = k := by
 subst e
 rw [List.length_append, List.length_singleton, Nat.add_sub_cancel, Qa]
theorem Zdt (w : List Int) (E : List (List Int)) (i k : Int) (hg : Zp w E) (hi : 0 <= i /\ i < w.length) (hk : 0 <= k /\ k < w.length) : Zj Tryz.prog 70 [aGr w E, aI i, aI k] [rL (pth w E i k)] [] := by
 have hlen := hg.1
 have hO := Zfy hg hk
 have hC := Zlj w E k hg hk
 have hol := hO.len
 have hH := Zhi (W4 w.length E k) i j2
 by_cases hb : ∃ u, Bw E k [] i u
 ·have hmem := (hO.mem i).2 hb
  obtain ⟨u, hb⟩ := hb
  obtain ⟨l, q, hn, he, hp⟩ := Hj hg hi hb
  have hnx := fun s hs => Zjz hg hO s (i :: l) q hn he hs
  have hla := Zsh he
  have hnd := hg.forest _ hn
  have hPl := hn.len hg hi
  have hPr := hn.range hg.2.2.1 hi
  have hpl := hO.plen
  rw [hp]
  rw [decide_eq_true hmem] at hH
  generalize W4 w.length E k = o at *
  generalize Znf w.length E k = p at *
  generalize hP : i :: l = P at *
  have hP0 : P.getD 0 0 = i := by rw [<- hP]; rfl
  have hP1 : P.take (0 + 1) = [i] := by rw [<- hP]; rfl
  have hPn : 0 < P.length := by rw [<- hP]; simp
  clear hO hmem hb hp
  refine cA_ _ Tryz.func70 rfl Tryz.ntmps70 sO_ ?_
  repeat' (first | (refine w2_ ?_ ?_ <;> intro _) | (guard_target =~ Zh; first | refine Za.cons (sC_ (hC) (.sh (.sh .nil)) (.shAgg rfl gA_ (.sh wS_ .nil)) rfl) ?_ | refine kM_ hH ?_) | refine a1_ ?_|fail)
  all_goals try (exfalso; omega)
  refine WpA.loop_ids2 (fun s i8 i9 => [(2, vGI k), (8, .own i8 (.sl true 1 (Ze p))), (9, .own i9 (.sl true 1 (Ze (P.take (s + 1))))), (10, vGI (P.getD s 0))]) (fun s => s < P.length) (fun s => P.length - s) 0 _ _ hPn ⟨rfl, xR_, by exact Zq hP1.symm, Zb hP0.symm, trivial⟩ ?_
  intro s i8 i9 st nx hs
  have hPw : P.length <= w.length := by rw [<- hP]; simpa using hPl
  have htl : (P.take (s + 1)).length <= 1000 := by rw [List.length_take]; omega
  have hxr := hPr _ (Z4 hs)
  by_cases hlt : s + 1 < P.length
  ·have e1 := hnx s hlt
   rw [<- Nat.mul_one (P.getD s 0).toNat] at e1
   have e2 : P.getD s 0 ≠ k := fun e => by
    have := Zb8 hnd hs (show P.length - 1 < P.length by omega) (e.trans hla.symm)
    omega
   have e3 : P.take (s + 1) ++ [p.getD ((P.getD s 0).toNat * 1) 0] = P.take (s + 1 + 1) := by
    rw [e1, List.take_add_one (i := s + 1), List.getElem?_eq_getElem hlt]
    simp [List.getD, hlt]
   clear hC hH hPr hnx
   repeat' (first | (refine w2_ ?_ ?_ <;> intro _) | refine a1_ ?_|fail)
   all_goals try (exfalso; omega)
   exact ⟨s + 1, hlt, ⟨_, _, rfl, rfl, by exact Zq e3, Zb e1, trivial⟩, by omega⟩
  ·have es : s = P.length - 1 := by omega
   have e2 : P.getD s 0 = k := by rw [es]; exact hla
   have e3 : P.take (s + 1) = P := List.take_of_length_le j2
   rw [e3]
   clear hC hH hPr hnx
   repeat' (first | (refine w2_ ?_ ?_ <;> intro _) | refine a1_ ?_|fail)
   all_goals try (exfalso; omega)
   all_goals rfl
 ·have hmem : ¬ i ∈ W4 w.length E k := fun h => hb ((hO.mem i).1 h)
  rw [Hi hg hi hb]
  rw [decide_eq_false hmem] at hH
  generalize W4 w.length E k = o at *
  generalize Znf w.length E k = p at *
  clear hO
  refine cA_ _ Tryz.func70 rfl Tryz.ntmps70 sO_ ?_
  repeat' (first | (refine w2_ ?_ ?_ <;> intro _) | (guard_target =~ Zh; first | refine Za.cons (sC_ (hC) (.sh (.sh .nil)) (.shAgg rfl gA_ (.sh wS_ .nil)) rfl) ?_ | refine kM_ hH ?_) | refine a1_ ?_|fail)
  all_goals try (exfalso; omega)
  all_goals rfl
def dS (f : List Int) : List Int -> Int -> Option Int
 | [], d => some d
 | v :: l, d => if (tms d (f.getD v.toNat 0)).2 = true then dS f l (tms d (f.getD v.toNat 0)).1 else none
theorem Zdu (f : List Int) : ∀ (l m : List Int) (d : Int), dS f (l ++ m) d = (dS f l d).bind fun e => dS f m e
 | [], m, d => rfl
 | v :: l, m, d => by
  simp only [List.cons_append, dS]
  split
  ·exact Zdu f l m _
  ·rfl
theorem Zqz (f : List Int) : ∀ (l : List Int) (d e : Int), d.natAbs <= 1000000000000 -> dS f l d = some e -> e.natAbs <= 1000000000000
 | [], d, e, h, h2 => by
  simp only [dS, Option.some.injEq] at h2
  rw [<- h2]; exact h
 | v :: l, d, e, h, h2 => by
  simp only [dS] at h2
  split at h2
  ·exact Zqz f l _ e Vu h2
  ·cases h2
noncomputable def Zi7 (w : List Int) (E : List (List Int)) : Int × Bool :=
 if brB w E = true then match dS (fL w E) (rts w E w.length) 1 with
  | some d => (d, true)
  | none => (0, false)
 else (0, false)
theorem Zba (f : List Int) : ∀ (l : List Int) (d : Int), l.foldl (Uq f) (d, false) = (d, false)
 | [], _ => rfl
 | v :: l, d => by
  rw [List.foldl_cons, show Uq f (d, false) v = (d, false) by unfold Uq; rw [if_neg (by simp)]]
  exact Zba f l d
theorem Zq0 (f : List Int) : ∀ (l : List Int) (d : Int), (∀ e, dS f l d = some e -> l.foldl (Uq f) (d, true) = (e, true)) /\ (dS f l d = none -> (l.foldl (Uq f) (d, true)).2 = false)
 | [], d => by simp [dS]
 | v :: l, d => by
  rw [List.foldl_cons, show Uq f (d, true) v = tms d (f.getD v.toNat 0) by unfold Uq; rw [if_pos rfl]]
  simp only [dS]
  have ih := Zq0 f l (tms d (f.getD v.toNat 0)).1
  cases h : (tms d (f.getD v.toNat 0)).2 with
  | true =>
   have e : tms d (f.getD v.toNat 0) = ((tms d (f.getD v.toNat 0)).1, true) := by rw [<- h]
   rw [e]
   simpa using ih
  | false =>
   have e : tms d (f.getD v.toNat 0) = ((tms d (f.getD v.toNat 0)).1, false) := by rw [<- h]
   rw [e, Zba]
   simp
theorem Zpp {w : List Int} {E : List (List Int)} (hg : Zp w E) : (U8 w E).2 = (Zi7 w E).2 /\ ((U8 w E).2 = true -> (U8 w E).1 = (Zi7 w E).1) := by
 have hL := Za9 hg
 have hro := Zhh hg w.length (Nat.le_refl _)
 unfold U8 Zi7
 by_cases hb : Zdp w E
 ·have hl := hL.2 hb
  rw [if_pos ((W7 w E).2 hb), hl, hro, (Zpf hg hb).1]
  have key := Zq0 (fL w E) (rts w E w.length) 1
  cases hd : dS (fL w E) (rts w E w.length) 1 with
  | some d =>
   rw [show (1, !false) = ((1 : Int), true) from rfl, key.1 d hd]
   exact ⟨rfl, fun _ => rfl⟩
  | none =>
   rw [show (1, !false) = ((1 : Int), true) from rfl, key.2 hd]
   exact ⟨rfl, fun h => by cases h⟩
 ·have hl : (X3 w E w.length).1.large = true := by
   cases h : (X3 w E w.length).1.large with
   | true => rfl
   | false => exact absurd (hL.1 h) hb
  rw [if_neg (fun h => hb ((W7 w E).1 h)), hl, show (1, !true) = ((1 : Int), false) from rfl, Zba]
  exact ⟨rfl, fun h => by cases h⟩
theorem Xbl {w : List Int} {E : List (List Int)} (hg : Zp w E) (hb : Zdp w E) : ∀ i, -1000000000000 <= (fL w E).getD i 0 /\ (fL w E).getD i 0 <= 1000000000000 := by
 have := (Zb7 (E := E) hg.wall w.length).2.1
 rw [(Zpf hg hb).1] at this
 exact this
theorem Zur (w : List Int) (E : List (List Int)) (hg : Zp w E) : Zj Tryz.prog 165 [aGr w E] [rI (Zi7 w E).1, rB (Zi7 w E).2] [] := by
 have hlen := hg.1
 have hB := Zpo w E hg
 unfold Zi7
 by_cases hb : Zdp w E
 ·have hb2 := (W7 w E).2 hb
  have hfb := Xbl hg hb
  have hfl := Zpe w E
  rw [show fR w E = fL w E from if_pos hb2, show gR w E = gL w E from if_pos hb2, hb2] at hB
  rw [if_pos hb2]
  have hcl := Ur w E
  generalize hfL : fL w E = f at *
  generalize gL w E = g at *
  refine cA_ _ Tryz.func165 rfl Tryz.ntmps165 sO_ ?_
  repeat' (first | (refine w2_ ?_ ?_ <;> intro _) | (guard_target =~ Zh; first | refine Za.cons (sC_ (hB) (.sh .nil) (.shAgg rfl gA_ .nil) rfl) ?_ | refine Za.cons (sC_ (Yb w E hg) (.sh .nil) (.shAgg rfl gA_ .nil) rfl) ?_) | refine a2_ ?_|fail)
  all_goals try (exfalso; omega)
  refine Jl (α := Nat) (β := Int × Nat × Nat) (fun v q => [(4, .own q.2.1 (.sl true 1 (Ze f))), (7, .own q.2.2 (.sl true 1 (Ze (X1 w E)))), (8, vGI q.1), (9, vGI v)]) (fun v q => v <= w.length /\ dS f (rts w E v) 1 = some q.1) (fun v _ => w.length - v) 0 (1, _, _) ⟨by omega, rfl⟩ ⟨xR_, xR_, rfl, rfl, trivial⟩ ?_
  rintro v ⟨d, i4, i7⟩ s nx ⟨hv, hd⟩
  simp only at hd
  dsimp only
  have hdl := Zqz f _ 1 d (by decide) hd
  by_cases hlt : v < w.length
  ·have hix := Zuq hg hlt
   rw [<- Nat.mul_one v] at hix
   have hI := Zli (X1 w E) ((X1 w E).getD (v * 1) 0) j2
   have hrt : rts w E (v + 1) = if Zv w E v = v then rts w E v ++ [(v : Int)] else rts w E v := rfl
   by_cases hr : Zv w E v = v
   ·have hix2 : ixF (X1 w E) ((X1 w E).getD (v * 1) 0) = v := by rw [hix, Nat.mul_one]; exact hr
    rw [hix2] at hI
    rw [if_pos hr] at hrt
    have hfv := hfb (v * 1)
    have hT := Yn d (f.getD (v * 1) 0) j2 hfv
    have hnext : dS f (rts w E (v + 1)) 1 = if (tms d (f.getD (v * 1) 0)).2 = true then some (tms d (f.getD (v * 1) 0)).1 else none := by
     rw [hrt, Zdu, hd]
     simp only [Option.bind_some, dS, Int.toNat_natCast, Nat.mul_one]
    generalize hLB : X1 w E = LB at *
    clear hix hix2 hfb
    cases ho : (tms d (f.getD (v * 1) 0)).2 with
    | true =>
     rw [ho] at hT hnext
     rw [if_pos rfl] at hnext
     repeat' (first | (refine w2_ ?_ ?_ <;> intro _) | refine kM_ hI ?_ | refine kM_ hT ?_ | refine a2_ ?_|fail)
     all_goals try (exfalso; omega)
     exact ⟨v + 1, (_, _, _), ⟨by omega, hnext⟩, ⟨rfl, rfl, rfl, Zb j2, trivial⟩, by omega⟩
    | false =>
     rw [ho] at hT hnext
     rw [if_neg (by decide)] at hnext
     have hnone : dS f (rts w E w.length) 1 = none := by
      have key : ∀ m, v + 1 <= m -> dS f (rts w E m) 1 = none := by
       intro m
       induction m with
       | zero => intro h; omega
       | succ m ih =>
        intro h
        by_cases e : m = v
        ·rw [e]; exact hnext
        ·have ih := ih j2
         rw [show rts w E (m + 1) = if Zv w E m = m then rts w E m ++ [(m : Int)] else rts w E m from rfl]
         split
         ·rw [Zdu, ih]; rfl
         ·exact ih
      exact key w.length j2
     rw [hnone]
     repeat' (first | (refine w2_ ?_ ?_ <;> intro _) | refine kM_ hI ?_ | refine kM_ hT ?_ | refine a2_ ?_|fail)
     all_goals first | rfl | (exfalso; omega)
   ·have hix2 : ixF (X1 w E) ((X1 w E).getD (v * 1) 0) ≠ v := by rw [hix, Nat.mul_one]; exact hr
    rw [if_neg hr] at hrt
    rw [<- hrt] at hd
    generalize hLB : X1 w E = LB at *
    clear hix hfb
    repeat' (first | (refine w2_ ?_ ?_ <;> intro _) | refine kM_ hI ?_ | refine a2_ ?_|fail)
    all_goals try (exfalso; omega)
    exact ⟨v + 1, (d, _, _), ⟨by omega, hd⟩, ⟨rfl, rfl, rfl, Zb j2, trivial⟩, by omega⟩
  ·have ev : v = w.length := by omega
   subst ev
   rw [hd]
   clear hfb
   repeat' (first | (refine w2_ ?_ ?_ <;> intro _) | refine a2_ ?_|fail)
   all_goals try (exfalso; omega)
   all_goals rfl
 ·have hb2 : ¬ brB w E = true := fun h => hb ((W7 w E).1 h)
  have hb3 : brB w E = false := by simpa using hb2
  rw [show fR w E = [] from if_neg hb2, show gR w E = [] from if_neg hb2, hb3] at hB
  rw [if_neg hb2]
  refine cA_ _ Tryz.func165 rfl Tryz.ntmps165 sO_ ?_
  repeat' (first | (refine w2_ ?_ ?_ <;> intro _) | (guard_target =~ Zh; first | refine Za.cons (sC_ (hB) (.sh .nil) (.shAgg rfl gA_ .nil) rfl) ?_ | refine Za.cons (sC_ (Yb w E hg) (.sh .nil) (.shAgg rfl gA_ .nil) rfl) ?_) | refine a2_ ?_|fail)
  all_goals first | rfl | (exfalso; omega)
end Go.Proofs.YtmgmpnhlehonmaaGreat
namespace Go.Proofs.YtmgmpnhlehonmaaGreat
open Go.Shelf
def Znl : Go.Shelf.Ren := ⟨fun | 212 => 166 | 263 => 185 | 264 => 186 | n => n, fun | 46 => 116 | 51 => 169 | 146 => 170 | 53 => 63 | 148 => 172 | n => n, fun | n => n⟩
theorem Zxy : Go.Proofs.Lays.n212 Tryz.prog Znl := {
 mixed := by kernel_rfl
 f212 := Tryz.func166.trans (congrArg some (by kernel_rfl))
 f263 := Tryz.func185.trans (congrArg some (by kernel_rfl))
 f264 := Tryz.func186.trans (congrArg some (by kernel_rfl))
 t46 := Tryz.underlying116
 a46 := Tryz.isAgg116
 z46 := Tryz.sizeOf116
 v46 := Tryz.zeroValue116
 t51 := Tryz.underlying169
 a51 := Tryz.isAgg169
 z51 := Tryz.sizeOf169
 v51 := Tryz.zeroValue169
 t53 := Tryz.underlying63
 a53 := Tryz.isAgg63
 z53 := Tryz.sizeOf63
 v53 := Tryz.zeroValue63
 t146 := Tryz.underlying170
 a146 := Tryz.isAgg170
 z146 := Tryz.sizeOf170
 v146 := Tryz.zeroValue170
 t148 := Tryz.underlying172
 a148 := Tryz.isAgg172
 z148 := Tryz.sizeOf172
 v148 := Tryz.zeroValue172 }
end Go.Proofs.YtmgmpnhlehonmaaGreat
namespace Go.Pv
open Go.RowKit
section
variable {P : Program} {n : NN} {nid : Nat} {st : Nat -> AV} {f : Fr} {X : Nat -> Prop} {a : Act} {w : World} {ρ : Nat -> Rho} {L : Nat -> List Nat} {M : List Nat}
inductive Zhk (st : Nat -> AV) : Operand -> Nat -> Nat -> List D -> Nat -> Nat -> List Nat -> Prop
 | root {t id cs} : st t = .own id (.sl true 1 cs) -> Zhk st (.tmp t) t id cs 0 cs.length [t]
 | als {t x id cs} : st t = .als x id [] -> st x = .own id (.sl true 1 cs) -> Zhk st (.tmp t) x id cs 0 cs.length [t, x]
 | sub {t x id lo n0 cs} : st t = .sub x id [] 1 lo n0 -> st x = .own id (.sl true 1 cs) -> Zhk st (.tmp t) x id cs lo n0 [t, x]
theorem Zhk.agree {st' : Nat -> AV} {x : Operand} {xr id lo n0 : Nat} {cs : List D} {rd : List Nat} (h : Zhk st x xr id cs lo n0 rd) (hs : ∀ s ∈ rd, st' s = st s) : Zhk st' x xr id cs lo n0 rd := by
 cases h with
 | root h => exact .root ((hs _ (by simp)).trans h)
 | als h1 h2 => exact .als ((hs _ (by simp)).trans h1) ((hs _ (by simp)).trans h2)
 | sub h1 h2 => exact .sub ((hs _ (by simp)).trans h1) ((hs _ (by simp)).trans h2)
theorem Zhl {α : Type} {g0 : α -> Value} {F : Nat -> Prop} {w : World} : ∀ (A : List α) (k : Nat) (r : Rho) (us : List Value) (L : List Nat), RDs F w (A.map fun x => D.lit (g0 x)) k r us L -> us = A.map g0 /\ L = []
 | [], _, _, _, _, h => by simpa only [List.map_nil, RDs] using h
 | x :: A, k, r, us, L, h => by
  simp only [List.map_cons, RDs] at h
  obtain ⟨u, us', L1, L2, rfl, rfl, h1, h2⟩ := h
  simp only [RD] at h1
  obtain ⟨rfl, _, rfl⟩ := h1
  obtain ⟨rfl, rfl⟩ := Zhl A (k + 1) r us' L2 h2
  exact ⟨rfl, rfl⟩
theorem Zem {α : Type} {g0 : α -> Value} {F : Nat -> Prop} {w : World} (h1 : ∀ x, (g0 x).oneCell' = true) : ∀ (A : List α) (k : Nat) (r : Rho), RDs F w (A.map fun x => D.lit (g0 x)) k r (A.map g0) []
 | [], _, _ => by simp [RDs]
 | x :: A, k, r => by
  simp only [List.map_cons, RDs]
  exact ⟨_, _, [], [], rfl, rfl, by simp only [RD]; exact ⟨trivial, h1 x, trivial⟩, Zem h1 A (k + 1) r⟩
theorem Znm {α : Type} {g0 : α -> Value} (A : List α) : D.erases (A.map fun x => D.lit (g0 x)) = A.map fun x => D.lit (g0 x) := by
 rw [D.erases_eq, List.map_map]
 rfl
def cpy {α : Type} (A B : List α) (lo n0 : Nat) : List α := A.take lo ++ B.take (min B.length n0) ++ A.drop (lo + min B.length n0)
theorem Zhm {α : Type} {g0 : α -> Value} {A B : List α} {d : Nat} {xd xs : Operand} {x id lo n0 : Nat} {T T2 : TypeId} {rd rd2 : List Nat} {ty pos aft g} [hT : Zu P T 1] (h : Zhk st xd x id (A.map fun a => D.lit (g0 a)) lo n0 rd)
  (hv : U3 st xs rd2 1 (B.map fun a => D.lit (g0 a))) (hone : ∀ a, (g0 a).oneCell' = true) (hln : lo + n0 <= A.length) (hne : (d == x) = false) (hd : n d = true) :
  Zg P n ⟨some d, .call ⟨.builtin .copy, #[xd, xs], #[T, T2]⟩, ty, pos, aft, g⟩ nid st (rd ++ rd2) [(d, .c (.lit (.int .i64 (min B.length n0 : Nat)))), (x, .own id (.sl true 1 ((cpy A B lo n0).map fun a => D.lit (g0 a))))] := by
 intro X st' hs hX f a w hn hrep K Q hK
 obtain ⟨ρ, L, hr⟩ := hrep
 subst hn
 have hne : d ≠ x := by simpa using hne
 have h' := h.agree (st' := st') fun s hs' => hs s (List.mem_append_left _ hs')
 have hv' := hv.agree (st' := st') fun s hs' => hs s (List.mem_append_right _ hs')
 have hxs : st' x = .own id (.sl true 1 (A.map fun a => D.lit (g0 a))) := by cases h' <;> assumption
 have hidX : X id := by
  have := hr.ids x
  rw [hxs] at this
  exact this id u3
 have hx := hr.slots x
 rw [hxs] at hx
 simp only [SR, RD] at hx
 obtain ⟨e0, us, L0, L1, eL, hrow, hcells⟩ := hx
 obtain ⟨rfl, rfl⟩ := Zhl A 0 _ us L1 hcells
 rw [List.append_nil] at eL
 obtain ⟨us2, r2, ⟨a2, n2, c2, es, k1, k2, k3, k4⟩, hc2⟩ := hv'.read hr
 rw [Znm] at hc2
 obtain ⟨rfl, _⟩ := Zhl B 0 _ us2 [] hc2
 simp only [Nat.mul_one, List.length_map] at k1
 obtain ⟨e, ti, z, t1, t2, t3, t4, _⟩ := hT.out
 have hsz : (P.info? e).map (·.size) = some 1 := by simp [t2, t3]
 have hrest : ∀ (w' : World) (us' : List Value), us' = (cpy A B lo n0).map g0 -> Zy w L0 w' -> Row w' (tmp a x) 1 us' L0 -> K (a.put (some d) (.int .i64 (min B.length n0 : Nat))) w' := by
  intro w' us' hus hk hrow'
  refine hK _ _ ⟨ρ, fun s => if s = d then [] else L s, ?_⟩
  refine hr.step (fun s => s = x \/ s = d) L0 _ _ _ w' _ _ (X4 _ _ _) (X7 _ _ _) (Yj _ hd) hk (fun g hg => ⟨x, .inl rfl, by rw [eL]; exact hg⟩) (fun _ _ => rfl) (fun s hs' => ?_) (fun s hs' => ?_) (fun s u hs' hu hsu g hg hgu => ?_) (fun _ h => .inl h) (fun s hs' i hi => ?_)
  ·simp only [not_or] at hs'
   exact ⟨by simp only [Zn]; rw [Zi _ _ _ _ hs'.1, Zi _ _ _ _ hs'.2], Zm _ _ _ _ hs'.2, by simp [hs'.2]⟩
  ·by_cases hsx : s = x
   ·subst hsx
    rw [if_neg (Ne.symm hne), Zm _ _ _ _ (Ne.symm hne)]
    simp only [Zn, Zo, SR, RD]
    refine ⟨⟨e0, us', L0, [], by rw [eL]; simp, hrow', by rw [hus]; exact Zem hone _ _ _⟩, hr.nodup s, fun g hg => ⟨Nat.lt_of_lt_of_le (hr.bound s g hg).1 hk.size, .inl ⟨s, .inl rfl, hg⟩⟩⟩
   ·have hs0 : s = d := hs'.resolve_left hsx
    subst hs0
    rw [if_pos rfl, Z9 _ _ _ (hr.size _ hd)]
    simp only [Zn]
    rw [Zi _ _ _ _ hsx, Zo]
    exact ⟨Zo7 rfl, List.nodup_nil, fun g hg => by simp at hg⟩
  ·by_cases hsd : s = d
   ·rw [if_pos hsd] at hg; simp at hg
   ·by_cases hud : u = d
    ·rw [if_pos hud] at hgu; simp at hgu
    ·have h1 := hs'.resolve_right hsd
     have h2 := hu.resolve_right hud
     exact hsu (h1.trans h2.symm)
  ·by_cases hsx : s = x
   ·subst hsx
    simp only [Zn, Zo, AV.ids, List.mem_singleton] at hi
    exact .inl (by rw [hi]; exact hidX)
   ·have hs0 : s = d := hs'.resolve_left hsx
    subst hs0
    simp only [Zn] at hi
    rw [Zi _ _ _ _ hsx, Zo] at hi
    simp [AV.ids] at hi
 have hdst : ∃ ad c1, a.eval xd = .slice ad n0 c1 /\ (n0 ≠ 0 -> ∃ g o nn cap cur ty', tmp a x = .slice (some ⟨g, o, none⟩) nn cap /\ w.heap[g]? = some (.cells cur ty' (0, 0)) /\ ad = some ⟨g, o + lo, none⟩ /\ nn = A.length /\ nn <= cap /\ cap <= maxLen /\ o + cap <= cur.size /\ (cur.toList.drop o).take nn = A.map g0 /\ L0 = [g]) := by
  rcases hrow with ⟨ev, eu, eL0⟩ | ⟨g, o, nn, cap, cur, ty', ev, q2, q3, q4, q5, q6, q7, eL0⟩
  ·have hA : A = [] := by simpa using eu
   subst hA
   have hn0 : n0 = 0 := by simp at hln; omega
   subst hn0
   cases h' with
   | root ht => exact ⟨none, 0, ev, fun h => absurd rfl h⟩
   | @als t _ _ _ ht hx' =>
    have := hr.slots t
    rw [ht] at this
    simp only [SR] at this
    exact ⟨none, 0, by show tmp a t = _; rw [this.2, <- e0, ev], fun h => absurd rfl h⟩
   | @sub t _ _ lo _ _ ht hx' =>
    have := hr.slots t
    rw [ht] at this
    simp only [SR] at this
    obtain ⟨_, b0, m0, c0, b1, c1, p1, p2, _⟩ := this
    exact ⟨b1, c1, p2, fun h => absurd rfl h⟩
  ·simp only [Nat.mul_one, List.length_map] at q3 q6 q7
   cases h' with
   | root ht =>
    refine ⟨some ⟨g, o, none⟩, cap, ?_, fun _ => ⟨g, o, nn, cap, cur, ty', ev, q2, rfl, q3, q4, q5, q6, q7, eL0⟩⟩
    show tmp a x = _
    rw [ev, q3]; simp
   | @als t _ _ _ ht hx' =>
    have := hr.slots t
    rw [ht] at this
    simp only [SR] at this
    refine ⟨some ⟨g, o, none⟩, cap, ?_, fun _ => ⟨g, o, nn, cap, cur, ty', ev, q2, rfl, q3, q4, q5, q6, q7, eL0⟩⟩
    show tmp a t = _
    rw [this.2, <- e0, ev, q3]; simp
   | @sub t _ _ lo _ _ ht hx' =>
    have := hr.slots t
    rw [ht] at this
    simp only [SR] at this
    obtain ⟨_, b0, m0, c0, b1, c1, p1, p2, p3, p4, p5, p6⟩ := this
    refine ⟨b1, c1, p2, fun hz => ⟨g, o, nn, cap, cur, ty', ev, q2, ?_, q3, q4, q5, q6, q7, eL0⟩⟩
    obtain ⟨s1, s2⟩ := p6 hz
    rw [<- e0, ev] at p1
    injection p1 with p1 _ _
    rw [s2, <- p1]
    simp only [Option.map_some, Nat.mul_one]
    rw [Vn]
 obtain ⟨ad, c1, ed, hdst⟩ := hdst
 have hop : ∀ (v : Value) (w' : World), (Builtin.copy_ #[T, T2] ty #[.slice ad n0 c1, .slice a2 n2 c2]).run P w = .ok v w' -> (execOp a.eval ⟨some d, .call ⟨.builtin .copy, #[xd, xs], #[T, T2]⟩, ty, pos, aft, g⟩).run P w = .ok (.value v) w' := by
  intro v w' hrun
  simp [execOp, resolve, invoke, builtin, ed, es, hrun]
 by_cases hm : min B.length n0 = 0
 ·have hrun := run_copy_none (P := P) w T T2 ty e ad a2 n0 c1 n2 c2 t1 hsz (by rw [k1]; exact hm)
  refine wV_ (hop _ _ hrun) ?_
  have e1 : (goInt 0 : Value) = .int .i64 (min B.length n0 : Nat) := by rw [hm]; rfl
  rw [e1]
  refine hrest w ((cpy A B lo n0).map g0) rfl ⟨rfl, rfl, rfl, Nat.le_refl _, fun _ _ _ => rfl, Nat.le_refl _⟩ ?_
  have : cpy A B lo n0 = A := by unfold cpy; rw [hm]; simp
  rw [this]
  exact hrow
 ·have hn0 : n0 ≠ 0 := fun h => hm (by rw [h]; simp)
  obtain ⟨g, o, nn, cap, cur, ty', ev, q2, rfl, q3, q4, q5, q6, q7, eL0⟩ := hdst hn0
  have hBne : B.map g0 ≠ [] := by
   intro hB
   have : B = [] := by simpa using hB
   exact hm (by rw [this]; simp)
  obtain ⟨b2, rfl, _, hcell⟩ := k4 hBne
  have hml : ((B.take (min B.length n0)).map g0).length = min B.length n0 := by simp
  have hrun := run_copy_row (P := P) w T T2 ty e g (o + lo) n0 c1 b2 n2 c2 cur ty' ((B.take (min B.length n0)).map g0) t1 hsz q2 (by rw [hml, k1]) (fun j v hj => hcell j v (by
    rw [List.getElem?_map] at hj
    rw [List.getElem?_map]
    by_cases hjm : j < min B.length n0
    ·rwa [List.getElem?_take_of_lt hjm] at hj
    ·rw [List.getElem?_take, if_neg hjm] at hj; simp at hj)) (by rw [hml]; omega) (fun v hv => by
    obtain ⟨y, _, rfl⟩ := List.mem_map.1 hv
    exact hone y)
  refine wV_ (hop _ _ hrun) ?_
  rw [hml]
  rw [hml] at hrun
  refine hrest _ ((cpy A B lo n0).map g0) rfl ⟨rfl, rfl, rfl, by simp, fun k _ hk => setRow_other w g k _ (by rw [eL0] at hk; simpa using hk), Nat.le_refl _⟩ ?_
  have hcl : (cpy A B lo n0).length = A.length := by simp [cpy]; omega
  have hcur : o + cap <= cur.toList.length := by simpa using q6
  refine .inr ⟨g, o, nn, cap, _, ty', ev, setRow_heap w g cur _ ty' _ q2, by simp [hcl, q3], q4, q5, ?_, ?_, eL0⟩
  ·simp only [Nat.mul_one, List.size_toArray, List.length_append, List.length_take, List.length_drop, hml]
   omega
  ·simp only [Nat.mul_one, List.toList_toArray]
   have hQ : (cur.toList.take (o + lo) ++ (B.take (min B.length n0)).map g0 ++ cur.toList.drop (o + lo + min B.length n0)).drop o = (cur.toList.drop o).take lo ++ (B.take (min B.length n0)).map g0 ++ (cur.toList.drop o).drop (lo + min B.length n0) := by
    rw [List.append_assoc, List.drop_append_of_le_length (by rw [List.length_take]; omega), List.drop_take, Nat.add_sub_cancel_left, List.append_assoc, List.drop_drop, Nat.add_assoc]
   rw [hQ]
   generalize cur.toList.drop o = Q at *
   have hsplit : Q = A.map g0 ++ Q.drop nn := by rw [<- q7, List.take_append_drop]
   rw [hsplit]
   have h1 : (A.map g0 ++ Q.drop nn).take lo = (A.take lo).map g0 := by
    rw [List.take_append_of_le_length u4, List.map_take]
   have h2 : (A.map g0 ++ Q.drop nn).drop (lo + min B.length n0) = (A.drop (lo + min B.length n0)).map g0 ++ Q.drop nn := by
    rw [List.drop_append_of_le_length u4, List.map_drop]
   rw [h1, h2, <- List.append_assoc, <- List.map_append, <- List.map_append]
   have h3 : (A.take lo ++ B.take (min B.length n0) ++ A.drop (lo + min B.length n0)) = cpy A B lo n0 := rfl
   rw [h3, List.take_append_of_le_length (by simp [hcl, q3]), List.take_of_length_le (by simp [hcl, q3])]
end
end Go.Pv
namespace Go.Proofs.YtmgmpnhlehonmaaGreat
set_option maxHeartbeats 20000000
open Go.Pv
open Go.ChangeShapes Go.WideShapes Go.ChangeAt Go.RowKit
attribute [local irreducible] Za WpA Zg Xf Zz Z6 Zd
instance fnOk166 : Zs Tryz.prog 166 := ⟨_, Tryz.func166, rfl, by decide⟩
instance fnOk126 : Zs Tryz.prog 126 := ⟨_, Tryz.func126, rfl, by decide⟩
abbrev aU (x : Int) : Arg := .sh (.one (.lit (.int .u64 x)))
abbrev rU (x : Int) : V := .one (.lit (.int .u64 x))
abbrev aBs (l : List Bool) : Arg := .sh (.one (.sl false 1 (Xz l)))
abbrev rBs (l : List Bool) : V := .one (.sl true 1 (Xz l))
theorem Znn {F : Nat -> Prop} {w : World} : ∀ (xs : List Value), Xg F w (xs.map fun v => Arg.sh (.one (.lit v))) xs [] []
 | [] => by simp [Xg]
 | v :: xs => by simp only [List.map_cons, Xg]; exact ⟨v, xs, rfl, Znn xs⟩
theorem Zno {F : Nat -> Prop} {w : World} : ∀ (xs : List Value) {vs : List Value} {M : List Nat}, Xx F w (xs.map fun v => Arg.sh (.one (.lit v))) vs M -> vs = xs /\ M = []
 | [], vs, M, h => by simpa only [List.map_nil, Xx] using h
 | v :: xs, vs, M, h => by
  simp only [List.map_cons, Xx, Zo0, VR, RD] at h
  obtain ⟨u, us', L1, L2, rfl, rfl, ⟨rfl, r, rfl, _⟩, h2⟩ := h
  obtain ⟨rfl, rfl⟩ := Zno xs h2
  exact ⟨rfl, rfl⟩
theorem Znp {F : Nat -> Prop} {w : World} : ∀ (rs : List Value), (∀ v ∈ rs, v.oneCell' = true) -> VRs F w (rs.map fun v => .one (.lit v)) rs []
 | [], _ => by simp [VRs]
 | v :: rs, h => by
  simp only [List.map_cons, VRs]
  exact ⟨v, rs, [], [], rfl, rfl, ⟨fun _ => undef, by simp only [RD]; exact ⟨trivial, h v (by simp), trivial⟩⟩, Znp rs fun u hu => h u (by simp [hu])⟩
theorem Zpq {P : Program} {K : FuncId} (xs rs : List Value) (ho : ∀ v ∈ rs, v.oneCell' = true) (h : ∀ w, Calls P K xs.toArray w fun e w' => e = .returned (X9 rs) /\ w' = w) : Zj P K (xs.map fun v => .sh (.one (.lit v))) (rs.map fun v => .one (.lit v)) [] := by
 unfold Zj Xf
 intro w vs M F hF hargs hnd hM
 obtain ⟨rfl, rfl⟩ := Zno xs hargs
 refine (h w).mono ?_
 rintro e w' ⟨rfl, rfl⟩
 exact ⟨rs, [], [], rfl, Zy.refl _, Znp rs ho, Znn vs, List.nodup_nil, by simp⟩
theorem Xbm (y : Nat) (hy : y <= 1000000) : Zj Tryz.prog 166 [aU 1, aU y] [rU 0, rU y] [] := by
 refine Zpq [.int .u64 1, .int .u64 y] [.int .u64 0, .int .u64 y] (by simp [Value.oneCell']) fun w => ?_
 have := Any.bits_Mul Zxy 1 y j2 j2 w
 rw [show (1 * y / 18446744073709551616 : Nat) = 0 by omega, show (1 * y % 18446744073709551616 : Nat) = y by omega] at this
 exact this
theorem Xad {a : Int} (h : 0 <= a /\ a <= 9223372036854775807) : IntKind.u64.wrap a = a := by simp [IntKind.wrap, IntKind.bits, IntKind.signed]; omega
theorem Zau {P : Program} {n : NN} {nid : Nat} {st : Nat -> AV} {d : Nat} {x : Operand} {a : Int} {S T : TypeId} {ty pos aft g} [hT : J0 P T .u64] [hS : J0 P S .i64] (hx : Go.Pv.Lit st x (.int .i64 a)) (h : 0 <= a /\ a <= 9223372036854775807) (hd : n d = true) :
  Zg P n ⟨some d, .convert S T x, ty, pos, aft, g⟩ nid st (Z5 x) [(d, .c (.lit (.int .u64 a)))] := by
 have := Ws (P := P) (n := n) (nid := nid) (S := S) (T := T) (ty := ty) (pos := pos) (aft := aft) (g := g) hx hd
 rwa [Xad h] at this
theorem Znq {α : Type} (b z : α) {c n : Nat} (h : c <= n) : (List.replicate c b ++ List.replicate (n - c) z).take c = List.replicate c b := by
 rw [List.take_append_of_le_length (by simp), List.take_of_length_le (by simp)]
theorem Zxz {α : Type} (b z : α) {c n : Nat} (h : c <= n) : cpy (List.replicate c b ++ List.replicate (n - c) z) (List.replicate c b) c (n - c) = List.replicate (c + min c (n - c)) b ++ List.replicate (n - (c + min c (n - c))) z := by
 unfold cpy
 rw [Znq b z h, List.length_replicate, List.take_replicate, List.drop_append, List.drop_of_length_le (by simp), List.length_replicate, List.drop_replicate, List.nil_append, List.replicate_append_replicate, show min (min c (n - c)) c = min c (n - c) by omega]
 congr 2
 omega
theorem Zsi {α : Type} (b z : α) (n : Nat) : cpy (List.replicate n z) [b] 0 n = List.replicate (min 1 n) b ++ List.replicate (n - min 1 n) z := by
 unfold cpy
 cases n with
 | zero => simp
 | succ n => simp [show min 1 (n + 1) = 1 by omega]
theorem Zsj (b : Bool) (m : Nat) (hm : m <= 1000000) : Zj Tryz.prog 126 [aBs [b], aI m] [rBs (List.replicate m b)] [] := by
 refine cA_ _ Tryz.func126 rfl Tryz.ntmps126 sO_ ?_
 have h1 : 0 <= (([b].length : Nat) : Int) /\ (([b].length : Nat) : Int) <= 9223372036854775807 := by constructor <;> simp
 repeat' (first | (refine w2_ ?_ ?_ <;> intro _) | refine kM_ (Xbm m hm) ?_ | (guard_target =~ IsN; first | refine Za.cons (Zau rfl h1 rfl) ?_ | refine Za.cons (Zau rfl j2 rfl) ?_ | refine Za.cons (Zhm (g0 := fun b => Value.bool b) (.als rfl rfl) (.sh rfl) (fun _ => rfl) (by simp) rfl rfl) ?_) | refine a1_ ?_|fail)
 all_goals try (exfalso; omega)
 refine WpA.loop_slots2 (fun c id => [(7, .own id (.sl true 1 (Xz (List.replicate c b ++ List.replicate (m - c) false)))), (8, vGI c)]) (fun c => c <= m /\ (c = 0 -> m = 0)) (fun c => m - c) (min 1 m) _ j2 ⟨by exact Ug (by rw [<- Zsi b false m]; simp), Zb (by simp), trivial⟩ ?_
 rintro c id s nx ⟨hc, hc0⟩
 have hlA : (List.replicate c b ++ List.replicate (m - c) false).length = m := by simp; omega
 have key := Zxz b false hc
 generalize hA : List.replicate c b ++ List.replicate (m - c) false = A at *
 have htk : A.take c = List.replicate c b := by rw [<- hA]; exact Znq b false hc
 by_cases hlt : c < m
 ·repeat' (first | (refine w2_ ?_ ?_ <;> intro _) | (guard_target =~ IsN; first | refine Za.cons (Zhm (g0 := fun b => Value.bool b) (.sub rfl rfl) (U3.cut rfl rfl rfl) (fun _ => rfl) j2 rfl rfl) ?_) | refine a1_ ?_|fail)
  all_goals try (exfalso; omega)
  have hB : List.take (c - 0) (List.drop 0 A) = List.replicate c b := by rw [Nat.sub_zero, List.drop_zero, htk]
  have hmin : min (List.take (c - 0) (List.drop 0 A)).length (A.length - c) = min c (m - c) := by rw [hB, hlA, List.length_replicate]
  refine ⟨c + min c (m - c), ⟨by omega, by omega⟩, ⟨_, by exact Ug (by rw [hB, hlA]; exact key), Zb (by rw [hmin]; omega), trivial⟩, by omega⟩
 ·have ec : c = m := by omega
  subst ec
  repeat' (first | (refine w2_ ?_ ?_ <;> intro _) | refine a1_ ?_|fail)
  all_goals try (exfalso; omega)
  rw [<- hA]; simp
instance fnOk167 : Zs Tryz.prog 167 := ⟨_, Tryz.func167, rfl, by decide⟩
instance fnOk127 : Zs Tryz.prog 127 := ⟨_, Tryz.func127, rfl, by decide⟩
def atL (K : List Bool) (n j : Nat) : List Int := (List.range n).map fun v => if v < j /\ kp K v = true then (cnt (kp K) v : Int) else 0
theorem Zf2 (K : List Bool) (n j : Nat) : (atL K n j).length = n := by simp [atL]
theorem Zdv {K : List Bool} {n j v : Nat} (h : v < n) : (atL K n j).getD v 0 = if v < j /\ kp K v = true then (cnt (kp K) v : Int) else 0 := by simp [atL, List.getD, h]
theorem Zus (K : List Bool) (n : Nat) : List.replicate n 0 = atL K n 0 := by
 refine Kj (by simp [atL]) fun k hk => ?_
 rw [List.length_replicate] at hk
 rw [Zdv hk, if_neg j2]
 simp [List.getD, hk]
theorem Zx0 {K : List Bool} {n j : Nat} (h : j < n) (hk : kp K j = true) : (atL K n j).set j (cnt (kp K) j) = atL K n (j + 1) := by
 refine Kj (by simp [atL]) fun k hk2 => ?_
 rw [List.length_set, Zf2] at hk2
 rw [Xu (by rw [Zf2]; exact h), Zdv hk2, Zdv hk2]
 by_cases e : j = k
 ·subst e; rw [if_pos rfl, if_pos ⟨by omega, hk⟩]
 ·rw [if_neg e]
  by_cases h1 : k < j /\ kp K k = true
  ·rw [if_pos h1, if_pos ⟨by omega, h1.2⟩]
  ·rw [if_neg h1, if_neg (fun h2 => h1 ⟨by omega, h2.2⟩)]
theorem Zut {K : List Bool} {n j : Nat} (hk : ¬ kp K j = true) : atL K n j = atL K n (j + 1) := by
 refine Kj (by simp [atL]) fun k hk2 => ?_
 rw [Zf2] at hk2
 rw [Zdv hk2, Zdv hk2]
 by_cases h1 : k < j /\ kp K k = true
 ·rw [if_pos h1, if_pos ⟨by omega, h1.2⟩]
 ·rw [if_neg h1, if_neg (fun h2 => h1 ⟨by
   by_cases e : k = j
   ·rw [e] at h2; exact absurd h2.2 hk
   ·omega, h2.2⟩)]
theorem Zpr (w : List Int) (E : List (List Int)) (K : List Bool) (hg : Zp w E) (hK : K.length = w.length) : Zj Tryz.prog 167 [aGr w E, aBs K] [.agg [.sl true 1 (Ze (kW w K w.length)), .sl true 1 (LL (kE E K E.length))]] [] := by
 have hlen := hg.1
 refine cA_ _ Tryz.func167 rfl Tryz.ntmps167 sO_ ?_
 repeat' (first | (refine w2_ ?_ ?_ <;> intro _) | refine ac_ ?_|fail)
 refine WpA.loop_ids3 (fun j i4 i5 i6 => [(1, .c (.sl false 1 (Xz K))), (2, .own 2 (.pt true [.sl false 1 (Ze w), .sl false 1 (LLs E)])), (4, .own i4 (.pt true [.sl true 1 [], .sl true 1 []])), (5, .own i5 (.sl true 1 (Ze (atL K w.length j)))), (6, .own i6 (.pt true [.sl true 1 (Ze (kW w K j)), .sl true 1 (LL [])])), (17, .c (.sl false 1 (Xz K))), (18, vGI w.length), (19, vGI j)]) (fun j => j <= w.length) (fun j => w.length - j) 0 _ _ _ j2 ⟨rfl, rfl, xR_, by exact Zq (by rw [<- Zus, hK]; rfl), xR_, rfl, Zb (by rw [hK]), rfl, trivial⟩ ?_
 intro j i4 i5 i6 s nx hj
 have hal := Zf2 K w.length j
 have hwl := Hk w K j
 have hcl := Za5 (kp K) j
 by_cases hlt : j < w.length
 ·cases hk : K.getD (j * 1) false with
  | true =>
   have hk2 : kp K j = true := by rw [Nat.mul_one] at hk; exact hk
   have e1 : (atL K w.length j).set (j * 1) (((kW w K j).length : Nat) : Int) = atL K w.length (j + 1) := by rw [Nat.mul_one, hwl]; exact Zx0 hlt hk2
   have e2 : kW w K (j + 1) = kW w K j ++ [w.getD (j * 1) 0] := by rw [kW, if_pos hk2, Nat.mul_one]
   generalize kW w K j = W at *
   repeat' (first | (refine w2_ ?_ ?_ <;> intro _) | refine ac_ ?_|fail)
   all_goals try (exfalso; simp_all; done)
   all_goals try (exfalso; omega)
   exact ⟨j + 1, by omega, ⟨_, _, _, rfl, rfl, rfl, by exact Zq e1, by rw [e2]; rfl, rfl, rfl, Zb j2, trivial⟩, by omega⟩
  | false =>
   have hk2 : ¬ kp K j = true := by rw [Nat.mul_one] at hk; unfold kp; rw [hk]; decide
   have e1 := Zut (n := w.length) hk2
   have e2 : kW w K (j + 1) = kW w K j := by rw [kW, if_neg hk2]
   repeat' (first | (refine w2_ ?_ ?_ <;> intro _) | refine ac_ ?_|fail)
   all_goals try (exfalso; simp_all; done)
   all_goals try (exfalso; omega)
   exact ⟨j + 1, by omega, ⟨_, _, _, rfl, rfl, rfl, by exact Zq e1, by rw [e2]; rfl, rfl, rfl, Zb j2, trivial⟩, by omega⟩
 ·have ej : j = w.length := by omega
  subst ej
  generalize kW w K w.length = W at *
  have hfew := hg.few
  repeat' (first | (refine w2_ ?_ ?_ <;> intro _) | refine ac_ ?_|fail)
  all_goals try (exfalso; omega)
  refine WpA.loop_slots2 (fun j i6 => [(1, .c (.sl false 1 (Xz K))), (4, .own i4 (.pt true [.sl true 1 [], .sl true 1 []])), (5, .own i5 (.sl true 1 (Ze (atL K w.length w.length)))), (6, .own i6 (.pt true [.sl true 1 (Ze W), .sl true 1 (LL (kE E K j))])), (43, .c (.sl false 1 (LLs E))), (44, vGI E.length), (45, vGI j)]) (fun j => j <= E.length) (fun j => E.length - j) 0 _ j2 ⟨rfl, rfl, rfl, xR_, rfl, rfl, rfl, trivial⟩ ?_
  intro j i6 s nx hj
  have hkl := Zph E K j
  by_cases hlt : j < E.length
  ·have g := hg.2.2.1 j hlt
   have r0 : (E.getD (j * 1) []).getD (0 * 1) 0 = ea E j := by rw [Nat.mul_one]; rfl
   have r1 : (E.getD (j * 1) []).getD (1 * 1) 0 = eb E j := by rw [Nat.mul_one]; rfl
   have r2 : (E.getD (j * 1) []).length = 2 := by rw [Nat.mul_one]; exact g.1
   have g1 := g.2.1
   have n0 : ∀ a : Int, 0 <= a -> a < w.length -> kp K a.toNat = true -> (atL K w.length w.length).getD (a.toNat * 1) 0 = num K a := fun a h1 h2 h3 => by
    rw [Nat.mul_one, Zdv j2, if_pos ⟨by omega, h3⟩]; rfl
   have e3 : kE E K (j + 1) = if kp K (ea E j).toNat && kp K (eb E j).toNat then kE E K j ++ [[num K (ea E j), num K (eb E j)]] else kE E K j := rfl
   have n1 := n0 (ea E j) j2 j2
   have n2 := n0 (eb E j) j2 j2
   have kp0 : kp K (ea E j).toNat = K.getD ((ea E j).toNat * 1) false := by rw [Nat.mul_one]; rfl
   have kp1 : kp K (eb E j).toNat = K.getD ((eb E j).toNat * 1) false := by rw [Nat.mul_one]; rfl
   rw [<- r0, <- r1] at g1 e3
   rw [<- r0] at n1 kp0
   rw [<- r1] at n2 kp1
   rw [kp0] at n1 e3
   rw [kp1] at n2 e3
   clear n0 kp0 kp1 r0 r1 g
   generalize atL K w.length w.length = A at *
   generalize hkE : kE E K j = B at *
   cases hk0 : K.getD (((E.getD (j * 1) []).getD (0 * 1) 0).toNat * 1) false with
   | false =>
    rw [hk0] at e3
    simp only [Bool.false_and, Bool.false_eq_true, if_false] at e3
    clear n1 n2
    repeat' (first | (refine w2_ ?_ ?_ <;> intro _) | refine ac_ ?_|fail)
    all_goals try (exfalso; simp_all; done)
    all_goals try (exfalso; omega)
    exact ⟨j + 1, by omega, ⟨_, rfl, rfl, rfl, by rw [e3]; rfl, rfl, rfl, Zb j2, trivial⟩, by omega⟩
   | true =>
    have n1' := n1 hk0
    cases hk1 : K.getD (((E.getD (j * 1) []).getD (1 * 1) 0).toNat * 1) false with
    | false =>
     rw [hk0, hk1] at e3
     simp only [Bool.and_false, Bool.false_eq_true, if_false] at e3
     clear n1 n2 n1'
     repeat' (first | (refine w2_ ?_ ?_ <;> intro _) | refine ac_ ?_|fail)
     all_goals try (exfalso; simp_all; done)
     all_goals try (exfalso; omega)
     exact ⟨j + 1, by omega, ⟨_, rfl, rfl, rfl, by rw [e3]; rfl, rfl, rfl, Zb j2, trivial⟩, by omega⟩
    | true =>
     have n2' := n2 hk1
     rw [hk0, hk1] at e3
     simp only [Bool.and_self, if_true] at e3
     rw [<- n1', <- n2'] at e3
     clear n1 n2 n1' n2'
     repeat' (first | (refine w2_ ?_ ?_ <;> intro _) | refine ac_ ?_|fail)
     all_goals try (exfalso; simp_all; done)
     all_goals try (exfalso; omega)
     exact ⟨j + 1, by omega, ⟨_, rfl, rfl, rfl, by rw [e3]; rfl, rfl, rfl, Zb j2, trivial⟩, by omega⟩
  ·have ej : j = E.length := by omega
   subst ej
   repeat' (first | (refine w2_ ?_ ?_ <;> intro _) | refine ac_ ?_|fail)
   all_goals try (exfalso; omega)
   all_goals rfl
theorem Zuu (w : List Int) (E : List (List Int)) (K : List Bool) (hg : Zp w E) (hK : K.length = w.length) : Zj Tryz.prog 127 [aGr w E, aBs K] [rI (if kW w K w.length = [] then 1 else (U8 (kW w K w.length) (kE E K E.length)).1), rB (if kW w K w.length = [] then true else (U8 (kW w K w.length) (kE E K E.length)).2)] [] := by
 have hlen := hg.1
 have hS := Zpr w E K hg hK
 have hgr := Zhe (K := K) hg
 generalize kW w K w.length = W at *
 generalize kE E K E.length = F at *
 by_cases h0 : W = []
 ·rw [if_pos h0, if_pos h0]
  subst h0
  refine cA_ _ Tryz.func127 rfl Tryz.ntmps127 sO_ ?_
  repeat' (first | (refine w2_ ?_ ?_ <;> intro _) | (guard_target =~ Zh; first | refine Za.cons (sC_ (hS) (.sh (.sh .nil)) (.shAgg rfl gA_ (.sh wS_ .nil)) rfl) ?_) | refine a2_ ?_|fail)
  all_goals first | rfl | (exfalso; simp_all; done) | (exfalso; omega)
 ·have hl : 0 < W.length := List.length_pos_iff.2 h0
  rw [if_neg h0, if_neg h0]
  have hD := Zas W F (hgr h0)
  refine cA_ _ Tryz.func127 rfl Tryz.ntmps127 sO_ ?_
  repeat' (first | (refine w2_ ?_ ?_ <;> intro _) | (guard_target =~ Zh; first | refine Za.cons (sC_ (hS) (.sh (.sh .nil)) (.shAgg rfl gA_ (.sh wS_ .nil)) rfl) ?_ | refine Za.cons (sC_ (hD) (.sh .nil) (.shAgg rfl gA_ .nil) rfl) ?_) | refine a2_ ?_|fail)
  all_goals first | rfl | (exfalso; omega)
end Go.Proofs.YtmgmpnhlehonmaaGreat
