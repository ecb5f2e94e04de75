/- What a curve's look says of it; its Milnor number is not negative. No condition. -/
import Derived.Test.YtpdfadnpfmlfgaaGreatDoorPCuD
import Derived.Test.YtpdfadnpfmlfgaaGreatDoorPCvE
import Derived.Test.YtpdfadnpfmlfgaaGreatDoorPNuA
set_option linter.unusedVariables false
set_option linter.unusedSimpArgs false
namespace Go.Proofs.YtpdfadnpfmlfgaaGreatDoor
set_option maxHeartbeats 20000000
open Go.Pv
open Go.ChangeShapes Go.WideShapes Go.ChangeAt Go.RowKit
attribute [local irreducible] RunU WpA Step CallG CallNG Done DoneN
instance fnOk131 : FnOk Tryz.prog 131 := ⟨_, Tryz.func131, rfl, by decide⟩
instance fnOk115 : FnOk Tryz.prog 115 := ⟨_, Tryz.func115, rfl, by decide⟩
instance fnOk92 : FnOk Tryz.prog 92 := ⟨_, Tryz.func92, rfl, by decide⟩
instance fnOk54 : FnOk Tryz.prog 54 := ⟨_, Tryz.func54, rfl, by decide⟩
instance fnOk21 : FnOk Tryz.prog 21 := ⟨_, Tryz.func21, rfl, by decide⟩
instance fnOk137 : FnOk Tryz.prog 137 := ⟨_, Tryz.func137, rfl, by decide⟩
instance fnOk122 : FnOk Tryz.prog 122 := ⟨_, Tryz.func122, rfl, by decide⟩
instance fnOk96 : FnOk Tryz.prog 96 := ⟨_, Tryz.func96, rfl, by decide⟩
instance fnOk57 : FnOk Tryz.prog 57 := ⟨_, Tryz.func57, rfl, by decide⟩
attribute [local irreducible] decStrict decFalls decIsBr decWithin Strict Falls IsBr Within
def Sm (l : List Int) : Prop := ∀ i, 0 ≤ l.getD i 0 ∧ l.getD i 0 ≤ 4000
def dotW (a b : List Int) : Nat → Int
 | 0 => 0
 | j + 1 => dotW a b j + a.getD j 0 * b.getD j 0
theorem mulS {x y : Int} (hx : 0 ≤ x ∧ x ≤ 4000) (hy : 0 ≤ y ∧ y ≤ 4000) : 0 ≤ x * y ∧ x * y ≤ 16000000 :=
 ⟨Int.mul_nonneg hx.1 hy.1, Int.le_trans (Int.mul_le_mul_of_nonneg_right hx.2 hy.1) (by omega)⟩
theorem dotW_in {a b : List Int} (ha : Sm a) (hb : Sm b) : ∀ j, 0 ≤ dotW a b j ∧ dotW a b j ≤ 16000000 * j
 | 0 => by simp [dotW]
 | j + 1 => by
  have h1 := dotW_in ha hb j
  have h2 := mulS (ha j) (hb j)
  rw [dotW]
  omega
theorem scalarW_c (a b : List Int) (ha : Sm a) (hb : Sm b) (h : a.length ≤ b.length) (hl : a.length ≤ 1000) : CallA Tryz.prog 131 [aL a, aL b] [rI (dotW a b a.length)] [] := by
 refine cA_ _ Tryz.func131 rfl Tryz.ntmps131 sO_ ?_
 repeat' (first | (refine w2_ ?_ ?_ <;> intro _) | refine goA ?_ | (refine neA ?_; first | refine nxA ?_ | refine Done.ret (.one rA_ .nil) (.sh (.sh .nil)) ?_ rfl) | fail)
 refine WpA.loop_slots (ι := Nat) (fun j => [(1, .c (.sl false 1 (ints b))), (5, .c (.lit (.int .i64 (dotW a b j)))), (8, .c (.sl false 1 (ints a))), (9, vQJ a.length), (10, vQJ j)]) (fun j => j ≤ a.length) (fun j => a.length - j) 0 (by omega) ⟨rfl, rfl, rfl, rfl, rfl, trivial⟩ ?_
 intro j s nx hj
 by_cases hlt : j < a.length
 ·have h1 := dotW_in ha hb j
  have h2' := mulS (ha (j * 1)) (hb (j * 1))
  have e : dotW a b j + a.getD (j * 1) 0 * b.getD (j * 1) 0 = dotW a b (j + 1) := by rw [Nat.mul_one, dotW]
  clear ha hb
  generalize hp : a.getD (j * 1) 0 * b.getD (j * 1) 0 = p at *
  repeat' (first | (refine w2_ ?_ ?_ <;> intro _) | refine goA ?_ | (refine neA ?_; first | refine nxA ?_ | refine Done.ret (.one rA_ .nil) (.sh (.sh .nil)) ?_ rfl) | fail)
  all_goals try (exfalso; omega)
  all_goals first | (rw [hp]; omega) | exact ⟨j + 1, by omega, ⟨rfl, int_eq (by rw [← e, ← hp]), rfl, rfl, int_eq (by omega), trivial⟩, by omega⟩
 ·have ej : j = a.length := by omega
  subst ej
  clear ha hb
  repeat' (first | (refine w2_ ?_ ?_ <;> intro _) | refine goA ?_ | (refine neA ?_; first | refine nxA ?_ | refine Done.ret (.one rA_ .nil) (.sh (.sh .nil)) ?_ rfl) | fail)
  all_goals try (exfalso; omega)
  all_goals rfl
theorem l07ProductW_c (a b : List Int) (ha : Sm a) (hb : Sm b) (h : a.length ≤ b.length) (hl : a.length ≤ 1000) : CallA Tryz.prog 137 [aL a, aL b] [rI (dotW a b a.length)] [] := by
 refine cA_ _ Tryz.func137 rfl Tryz.ntmps137 sO_ ?_
 repeat' (first | (refine w2_ ?_ ?_ <;> intro _) | refine goA ?_ | (refine neA ?_; first | refine nxA ?_ | refine Done.ret (.one rA_ .nil) (.sh (.sh .nil)) ?_ rfl) | fail)
 refine WpA.loop_slots (ι := Nat) (fun j => [(0, .c (.sl false 1 (ints a))), (1, .c (.sl false 1 (ints b))), (5, .c (.lit (.int .i64 (dotW a b j)))), (6, vQJ j)]) (fun j => j ≤ a.length) (fun j => a.length - j) 0 (by omega) ⟨rfl, rfl, rfl, rfl, trivial⟩ ?_
 intro j s nx hj
 by_cases hlt : j < a.length
 ·have h1 := dotW_in ha hb j
  have h2' := mulS (ha (j * 1)) (hb (j * 1))
  have e : dotW a b j + a.getD (j * 1) 0 * b.getD (j * 1) 0 = dotW a b (j + 1) := by rw [Nat.mul_one, dotW]
  clear ha hb
  generalize hp : a.getD (j * 1) 0 * b.getD (j * 1) 0 = p at *
  repeat' (first | (refine w2_ ?_ ?_ <;> intro _) | refine goA ?_ | (refine neA ?_; first | refine nxA ?_ | refine Done.ret (.one rA_ .nil) (.sh (.sh .nil)) ?_ rfl) | fail)
  all_goals try (exfalso; omega)
  all_goals first | (rw [hp]; omega) | exact ⟨j + 1, by omega, ⟨rfl, rfl, int_eq (by rw [← e, ← hp]), int_eq (by omega), trivial⟩, by omega⟩
 ·have ej : j = a.length := by omega
  subst ej
  clear ha hb
  repeat' (first | (refine w2_ ?_ ?_ <;> intro _) | refine goA ?_ | (refine neA ?_; first | refine nxA ?_ | refine Done.ret (.one rA_ .nil) (.sh (.sh .nil)) ?_ rfl) | fail)
  all_goals try (exfalso; omega)
  all_goals rfl
theorem mulK_sm {l : List Int} (h : IsBr l) (k : Nat) : Sm (mulK l k) := fun i => by
 by_cases hi : i < (mulK l k).length
 ·have hm : (mulK l k).getD i 0 ∈ mulK l k := by
   rw [List.getD_eq_getElem?_getD, List.getElem?_eq_getElem hi]; exact List.getElem_mem hi
  have h1 := (mulK_un h k).2 _ hm
  have h2 := mulK_le h k _ hm
  omega
 ·rw [List.getD_eq_getElem?_getD, List.getElem?_eq_none (by omega)]; simp
def mtI (a b : List Int) (c : Int) : Int := dotW (mulK a c.toNat) (mulK b c.toNat) c.toNat
theorem mtI_in {a b : List Int} (ha : IsBr a) (hb : IsBr b) {c : Int} (hc : c ≤ 200) : 0 ≤ mtI a b c ∧ mtI a b c ≤ 3200000000 := by
 have := dotW_in (mulK_sm ha c.toNat) (mulK_sm hb c.toNat) c.toNat
 unfold mtI
 omega
theorem intersection_c (a b : List Int) (ha : IsBr a) (hb : IsBr b) (c : Int) (hc : 0 ≤ c ∧ c ≤ 200) : CallA Tryz.prog 115 [aBr1 a, aBr1 b, aI c] [rI (mtI a b c)] [] := by
 have hA := firstOf_c a ha c.toNat (by omega)
 have hB := firstOf_c b hb c.toNat (by omega)
 have hS := scalarW_c _ _ (mulK_sm ha c.toNat) (mulK_sm hb c.toNat) (by rw [mulK_len, mulK_len]; exact Nat.le_refl _) (by rw [mulK_len]; omega)
 rw [mulK_len] at hS
 rw [show ((c.toNat : Nat) : Int) = c by omega] at hA hB
 unfold mtI
 have la := mulK_len a c.toNat
 have lb := mulK_len b c.toNat
 clear ha hb
 generalize dotW (mulK a c.toNat) (mulK b c.toNat) c.toNat = d at *
 by_cases hab : a = b
 ·subst hab
  generalize mulK a c.toNat = x at *
  refine cA_ _ Tryz.func115 rfl Tryz.ntmps115 sO_ ?_
  repeat' (first | (refine w2_ ?_ ?_ <;> intro _) | (guard_target =~ CallN_; first | refine RunU.cons (sC_ (hA) (.sh (.sh .nil)) (.shAgg rfl gA_ (.sh wS_ .nil)) rfl) ?_ | refine RunU.cons (sC_ (hS) (.sh (.sh .nil)) (.sh wS_ (.sh wS_ .nil)) rfl) ?_) | refine goA ?_ | (refine neA ?_; first | refine nxA ?_ | refine Done.ret (.one rA_ .nil) (.sh (.sh (.sh .nil))) ?_ rfl) | fail)
  all_goals first | rfl | (exfalso; omega)
 ·generalize mulK a c.toNat = x at *
  generalize mulK b c.toNat = y at *
  refine cA_ _ Tryz.func115 rfl Tryz.ntmps115 sO_ ?_
  repeat' (first | (refine w2_ ?_ ?_ <;> intro _) | (guard_target =~ AtN 9; refine RunU.cons (sC_ (hA) (.sh (.sh .nil)) (.shAgg rfl gA_ (.sh wS_ .nil)) rfl) ?_) | (guard_target =~ AtN 12; refine RunU.cons (sC_ (hB) (.sh (.sh .nil)) (.shAgg rfl gA_ (.sh wS_ .nil)) rfl) ?_) | (guard_target =~ CallN_; first | refine RunU.cons (sC_ (hS) (.sh (.sh .nil)) (.sh wS_ (.sh wS_ .nil)) rfl) ?_) | refine goA ?_ | (refine neA ?_; first | refine nxA ?_ | refine Done.ret (.one rA_ .nil) (.sh (.sh (.sh .nil))) ?_ rfl) | fail)
  all_goals first | rfl | (exfalso; omega)
theorem l09Meet_c (a b : List Int) (ha : IsBr a) (hb : IsBr b) (c : Int) (hc : 0 ≤ c ∧ c ≤ 200) : CallA Tryz.prog 122 [aBr1 a, aBr1 b, aI c] [rI (mtI a b c)] [] := by
 have hA := l06Sequence_c a ha c.toNat (by omega)
 have hB := l06Sequence_c b hb c.toNat (by omega)
 have hS := l07ProductW_c _ _ (mulK_sm ha c.toNat) (mulK_sm hb c.toNat) (by rw [mulK_len, mulK_len]; exact Nat.le_refl _) (by rw [mulK_len]; omega)
 rw [mulK_len] at hS
 rw [show ((c.toNat : Nat) : Int) = c by omega] at hA hB
 unfold mtI
 have la := mulK_len a c.toNat
 have lb := mulK_len b c.toNat
 clear ha hb
 generalize dotW (mulK a c.toNat) (mulK b c.toNat) c.toNat = d at *
 by_cases hab : a = b
 ·subst hab
  generalize mulK a c.toNat = x at *
  refine cA_ _ Tryz.func122 rfl Tryz.ntmps122 sO_ ?_
  repeat' (first | (refine w2_ ?_ ?_ <;> intro _) | (guard_target =~ CallN_; first | refine RunU.cons (sC_ (hA) (.sh (.sh .nil)) (.shAgg rfl gA_ (.sh wS_ .nil)) rfl) ?_ | refine RunU.cons (sC_ (hS) (.sh (.sh .nil)) (.sh wS_ (.sh wS_ .nil)) rfl) ?_) | refine goA ?_ | (refine neA ?_; first | refine nxA ?_ | refine Done.ret (.one rA_ .nil) (.sh (.sh (.sh .nil))) ?_ rfl) | fail)
  all_goals first | rfl | (exfalso; omega)
 ·generalize mulK a c.toNat = x at *
  generalize mulK b c.toNat = y at *
  refine cA_ _ Tryz.func122 rfl Tryz.ntmps122 sO_ ?_
  repeat' (first | (refine w2_ ?_ ?_ <;> intro _) | (guard_target =~ AtN 9; refine RunU.cons (sC_ (hA) (.sh (.sh .nil)) (.shAgg rfl gA_ (.sh wS_ .nil)) rfl) ?_) | (guard_target =~ AtN 12; refine RunU.cons (sC_ (hB) (.sh (.sh .nil)) (.shAgg rfl gA_ (.sh wS_ .nil)) rfl) ?_) | (guard_target =~ CallN_; first | refine RunU.cons (sC_ (hS) (.sh (.sh .nil)) (.sh wS_ (.sh wS_ .nil)) rfl) ?_) | refine goA ?_ | (refine neA ?_; first | refine nxA ?_ | refine Done.ret (.one rA_ .nil) (.sh (.sh (.sh .nil))) ?_ rfl) | fail)
  all_goals first | rfl | (exfalso; omega)
def dlI (l : List Int) : Int := dltTo (seqI l) (seqI l).length
theorem mu_dl (l : List Int) : muI l = 2 * dlI l := rfl
theorem dlI_in {l : List Int} (h : IsBr l) : 0 ≤ dlI l ∧ dlI l ≤ 20000000000000000 := by
 obtain ⟨d, h1, h2, _⟩ := specDelta_c l (tmsQ_br h)
 have := mu_dl l
 omega
theorem deltaU_c {l : List Int} (h : IsBr l) : CallA Tryz.prog 121 [aBr1 l] [rI (dlI l)] [] := by
 obtain ⟨d, h1, h2, h3⟩ := specDelta_c l (tmsQ_br h)
 have := mu_dl l
 rw [show dlI l = d by omega]
 exact h3
def mtRow (B C : List (List Int)) (i : Nat) : Nat → Int
 | 0 => 0
 | k + 1 => mtRow B C i k + mtI (B.getD (i * 1) []) (B.getD (k * 1) []) ((C.getD (i * 1) []).getD (k * 1) 0)
def dlTo (B C : List (List Int)) : Nat → Int
 | 0 => 0
 | i + 1 => dlTo B C i + dlI (B.getD (i * 1) []) + mtRow B C i i
def muU (B C : List (List Int)) : Int := 2 * dlTo B C B.length - B.length + 1
structure MuOk (B C : List (List Int)) : Prop where
 n6 : B.length ≤ 6
 cl : C.length = B.length
 br : ∀ i, i < B.length → IsBr (B.getD i [])
 rl : ∀ i, i < B.length → B.length ≤ (C.getD i []).length
 en : ∀ i, i < B.length → ∀ k, k < i → 0 ≤ (C.getD i []).getD k 0 ∧ (C.getD i []).getD k 0 ≤ 200
theorem mtRow_in {B C : List (List Int)} (h : MuOk B C) {i : Nat} (hi : i < B.length) : ∀ k, k ≤ i → 0 ≤ mtRow B C i k ∧ mtRow B C i k ≤ 3200000000 * k
 | 0, _ => by simp [mtRow]
 | k + 1, hk => by
  have ih := mtRow_in h hi k (by omega)
  have h1 := mtI_in (h.br i hi) (h.br k (by omega)) (h.en i hi k (by omega)).2
  rw [mtRow, Nat.mul_one, Nat.mul_one]
  omega
theorem dlTo_in {B C : List (List Int)} (h : MuOk B C) : ∀ i, i ≤ B.length → 0 ≤ dlTo B C i ∧ dlTo B C i ≤ 30000000000000000 * i
 | 0, _ => by simp [dlTo]
 | i + 1, hi => by
  have ih := dlTo_in h i (by omega)
  have h1 := mtRow_in h (i := i) (by omega) i (by omega)
  have h2 := dlI_in (h.br i (by omega))
  have h6 := h.n6
  rw [dlTo, Nat.mul_one]
  omega
structure Pr1 (a b : List Int) (c : Int) : Prop where
 a : IsBr a
 b : IsBr b
 lo : 0 ≤ c
 hi : c ≤ 200
theorem MuOk.pr {B C : List (List Int)} (h : MuOk B C) {i k : Nat} (hi : i < B.length) (hk : k < i) : Pr1 (B.getD (i * 1) []) (B.getD (k * 1) []) ((C.getD (i * 1) []).getD (k * 1) 0) := by
 have := h.en i hi k hk
 rw [Nat.mul_one, Nat.mul_one]
 exact ⟨h.br i hi, h.br k (by omega), this.1, this.2⟩
theorem meeting_c (B C : List (List Int)) (i k : Nat) (hi : i < B.length) (hk : k < B.length) (hn : B.length ≤ 6) (hC : C.length = B.length) (hr : k * 1 < (C.getD (i * 1) []).length) (h : Pr1 (B.getD (i * 1) []) (B.getD (k * 1) []) ((C.getD (i * 1) []).getD (k * 1) 0)) : CallA Tryz.prog 92 [aCu B C, aI i, aI k] [rI (mtI (B.getD (i * 1) []) (B.getD (k * 1) []) ((C.getD (i * 1) []).getD (k * 1) 0))] [] := by
 have hI := intersection_c _ _ h.a h.b _ ⟨h.lo, h.hi⟩
 clear h
 refine cA_ _ Tryz.func92 rfl Tryz.ntmps92 sO_ ?_
 repeat' (first | (refine w2_ ?_ ?_ <;> intro _) | (guard_target =~ CallN_; first | refine RunU.cons (sC_ (hI) (.sh (.sh (.sh .nil))) (.shAgg rfl gA_ (.shAgg rfl gA_ (.sh wS_ .nil))) rfl) ?_) | refine goA ?_ | (refine neA ?_; first | refine nxA ?_ | refine Done.ret (.one rA_ .nil) (.sh (.sh (.sh .nil))) ?_ rfl) | fail)
 all_goals first | rfl | (exfalso; omega)
theorem curveDelta_c (B C : List (List Int)) (h : MuOk B C) : CallA Tryz.prog 54 [aCu B C] [rI (dlTo B C B.length)] [] := by
 have hdl := dlTo_in h
 have hmt := fun i hi => mtRow_in h (i := i) hi
 have hpr := fun i k hi hk => h.pr (i := i) (k := k) hi hk
 have hn := h.n6
 have hC := h.cl
 have hbr := h.br
 have hrl := h.rl
 clear h
 refine cA_ _ Tryz.func54 rfl Tryz.ntmps54 sO_ ?_
 repeat' (first | (refine w2_ ?_ ?_ <;> intro _) | refine goA ?_ | (refine neA ?_; first | refine nxA ?_ | refine Done.ret (.one rA_ .nil) (.sh .nil) ?_ rfl) | fail)
 all_goals try (exfalso; omega)
 refine WpA.loop_slots (ι := Nat) (fun i => [(1, .own 1 (.pt true [.sl false 1 (LLs B), .sl false 1 (LLs C)])), (3, vQJ (dlTo B C i)), (8, .c (.sl false 1 (LLs B))), (9, vQJ B.length), (10, vQJ i)]) (fun i => i ≤ B.length) (fun i => B.length - i) 0 (by omega) ⟨rfl, rfl, rfl, rfl, rfl, trivial⟩ ?_
 intro i s nx hi
 have hd := hdl i hi
 by_cases hlt : i < B.length
 ·have hm := hmt i hlt
  have hp := hpr i
  have hrow := hrl i hlt
  have hbi := hbr (i * 1) (by omega)
  have hS := sequence_c (B.getD (i * 1) []) (tmsQ_br hbi)
  obtain ⟨q1, q2⟩ := seqI_ok (tmsQ_br hbi)
  have hM := deltaOf_c (seqI (B.getD (i * 1) [])) (by omega) q2
  have hd1 := dlI_in hbi
  have hst : dlTo B C (i + 1) = dlTo B C i + dlI (B.getD (i * 1) []) + mtRow B C i i := rfl
  rw [show dltTo (seqI (B.getD (i * 1) [])) (seqI (B.getD (i * 1) [])).length = dlI (B.getD (i * 1) []) from rfl] at hM
  clear hdl hmt hpr hrl hbr hbi q2
  generalize seqI (B.getD (i * 1) []) = sq at *
  generalize dlI (B.getD (i * 1) []) = dl at *
  repeat' (first | (refine w2_ ?_ ?_ <;> intro _) | (guard_target =~ CallN_; first | refine RunU.cons (sC_ (hS) (.sh .nil) (.shAgg rfl gA_ .nil) rfl) ?_ | refine RunU.cons (sC_ (hM) (.sh .nil) (.sh wS_ .nil) rfl) ?_) | refine goA ?_ | (refine neA ?_; first | refine nxA ?_ | refine Done.ret (.one rA_ .nil) (.sh .nil) ?_ rfl) | fail)
  all_goals try (exfalso; omega)
  refine WpA.loop_slots (ι := Nat) (fun k => [(1, .own 1 (.pt true [.sl false 1 (LLs B), .sl false 1 (LLs C)])), (3, vQJ (dlTo B C i + dl + mtRow B C i k)), (4, vQJ i), (8, .c (.sl false 1 (LLs B))), (9, vQJ B.length), (10, vQJ i), (20, vQJ i), (21, vQJ k)]) (fun k => k ≤ i) (fun k => i - k) 0 (by omega) ⟨rfl, int_eq (by simp [mtRow]), rfl, rfl, rfl, rfl, rfl, rfl, trivial⟩ ?_
  intro k s nx hk
  have hmk := hm k hk
  by_cases hkl : k < i
  ·have hpk := hp k hlt hkl
   have hMt := meeting_c B C i k hlt (by omega) hn hC (by rw [Nat.mul_one, Nat.mul_one]; omega) hpk
   have hin := mtI_in hpk.a hpk.b hpk.hi
   have hst2 : mtRow B C i (k + 1) = mtRow B C i k + mtI (B.getD (i * 1) []) (B.getD (k * 1) []) ((C.getD (i * 1) []).getD (k * 1) 0) := rfl
   clear hm hp hpk
   generalize mtI (B.getD (i * 1) []) (B.getD (k * 1) []) ((C.getD (i * 1) []).getD (k * 1) 0) = q at *
   repeat' (first | (refine w2_ ?_ ?_ <;> intro _) | (guard_target =~ CallN_; first | refine RunU.cons (sC_ (hMt) (.sh (.sh (.sh .nil))) (.shAgg rfl gA_ (.sh wS_ (.sh wS_ .nil))) rfl) ?_) | refine goA ?_ | (refine neA ?_; first | refine nxA ?_ | refine Done.ret (.one rA_ .nil) (.sh .nil) ?_ rfl) | fail)
   all_goals try (exfalso; omega)
   all_goals exact ⟨k + 1, by omega, ⟨rfl, int_eq (by omega), rfl, rfl, rfl, rfl, rfl, int_eq (by omega), trivial⟩, by omega⟩
  ·obtain rfl : k = i := by omega
   clear hm hp
   repeat' (first | (refine w2_ ?_ ?_ <;> intro _) | refine goA ?_ | (refine neA ?_; first | refine nxA ?_ | refine Done.ret (.one rA_ .nil) (.sh .nil) ?_ rfl) | fail)
   all_goals try (exfalso; omega)
   all_goals exact ⟨k + 1, by omega, ⟨rfl, int_eq (by omega), rfl, rfl, int_eq (by omega), trivial⟩, by omega⟩
 ·obtain rfl : i = B.length := by omega
  clear hdl hmt hpr hrl hbr
  repeat' (first | (refine w2_ ?_ ?_ <;> intro _) | refine goA ?_ | (refine neA ?_; first | refine nxA ?_ | refine Done.ret (.one rA_ .nil) (.sh .nil) ?_ rfl) | fail)
  all_goals first | rfl | (exfalso; omega)
theorem l09Delta_c (B C : List (List Int)) (h : MuOk B C) : CallA Tryz.prog 96 [aCu B C] [rI (dlTo B C B.length)] [] := by
 have hdl := dlTo_in h
 have hmt := fun i hi => mtRow_in h (i := i) hi
 have hpr := fun i k hi hk => h.pr (i := i) (k := k) hi hk
 have hn := h.n6
 have hC := h.cl
 have hbr := h.br
 have hrl := h.rl
 clear h
 refine cA_ _ Tryz.func96 rfl Tryz.ntmps96 sO_ ?_
 repeat' (first | (refine w2_ ?_ ?_ <;> intro _) | refine goA ?_ | (refine neA ?_; first | refine nxA ?_ | refine Done.ret (.one rA_ .nil) (.sh .nil) ?_ rfl) | fail)
 all_goals try (exfalso; omega)
 refine WpA.loop_slots (ι := Nat) (fun i => [(1, .own 1 (.pt true [.sl false 1 (LLs B), .sl false 1 (LLs C)])), (3, vQJ (dlTo B C i)), (4, vQJ i)]) (fun i => i ≤ B.length) (fun i => B.length - i) 0 (by omega) ⟨rfl, rfl, rfl, trivial⟩ ?_
 intro i s nx hi
 have hd := hdl i hi
 by_cases hlt : i < B.length
 ·have hm := hmt i hlt
  have hp := hpr i
  have hrow := hrl i hlt
  have hbi := hbr (i * 1) (by omega)
  have hM := deltaU_c hbi
  have hd1 := dlI_in hbi
  have hst : dlTo B C (i + 1) = dlTo B C i + dlI (B.getD (i * 1) []) + mtRow B C i i := rfl
  clear hdl hmt hpr hrl hbr hbi
  generalize dlI (B.getD (i * 1) []) = dl at *
  repeat' (first | (refine w2_ ?_ ?_ <;> intro _) | (guard_target =~ CallN_; first | refine RunU.cons (sC_ (hM) (.sh .nil) (.shAgg rfl gA_ .nil) rfl) ?_) | refine goA ?_ | (refine neA ?_; first | refine nxA ?_ | refine Done.ret (.one rA_ .nil) (.sh .nil) ?_ rfl) | fail)
  all_goals try (exfalso; omega)
  refine WpA.loop_slots (ι := Nat) (fun k => [(1, .own 1 (.pt true [.sl false 1 (LLs B), .sl false 1 (LLs C)])), (3, vQJ (dlTo B C i + dl + mtRow B C i k)), (4, vQJ i), (5, vQJ k)]) (fun k => k ≤ i) (fun k => i - k) 0 (by omega) ⟨rfl, int_eq (by simp [mtRow]), rfl, rfl, trivial⟩ ?_
  intro k s nx hk
  have hmk := hm k hk
  by_cases hkl : k < i
  ·have hpk := hp k hlt hkl
   have hMt := l09Meet_c _ _ hpk.a hpk.b _ ⟨hpk.lo, hpk.hi⟩
   have hin := mtI_in hpk.a hpk.b hpk.hi
   have hst2 : mtRow B C i (k + 1) = mtRow B C i k + mtI (B.getD (i * 1) []) (B.getD (k * 1) []) ((C.getD (i * 1) []).getD (k * 1) 0) := rfl
   have hrow2 : k * 1 < (C.getD (i * 1) []).length := by rw [Nat.mul_one, Nat.mul_one]; omega
   clear hm hp hpk
   generalize mtI (B.getD (i * 1) []) (B.getD (k * 1) []) ((C.getD (i * 1) []).getD (k * 1) 0) = q at *
   repeat' (first | (refine w2_ ?_ ?_ <;> intro _) | (guard_target =~ CallN_; first | refine RunU.cons (sC_ (hMt) (.sh (.sh (.sh .nil))) (.shAgg rfl gA_ (.shAgg rfl gA_ (.sh wS_ .nil))) rfl) ?_) | refine goA ?_ | (refine neA ?_; first | refine nxA ?_ | refine Done.ret (.one rA_ .nil) (.sh .nil) ?_ rfl) | fail)
   all_goals try (exfalso; omega)
   all_goals exact ⟨k + 1, by omega, ⟨rfl, int_eq (by omega), rfl, int_eq (by omega), trivial⟩, by omega⟩
  ·obtain rfl : k = i := by omega
   clear hm hp
   repeat' (first | (refine w2_ ?_ ?_ <;> intro _) | refine goA ?_ | (refine neA ?_; first | refine nxA ?_ | refine Done.ret (.one rA_ .nil) (.sh .nil) ?_ rfl) | fail)
   all_goals try (exfalso; omega)
   all_goals exact ⟨k + 1, by omega, ⟨rfl, int_eq (by omega), int_eq (by omega), trivial⟩, by omega⟩
 ·obtain rfl : i = B.length := by omega
  clear hdl hmt hpr hrl hbr
  repeat' (first | (refine w2_ ?_ ?_ <;> intro _) | refine goA ?_ | (refine neA ?_; first | refine nxA ?_ | refine Done.ret (.one rA_ .nil) (.sh .nil) ?_ rfl) | fail)
  all_goals first | rfl | (exfalso; omega)
theorem curveMilnor_c (B C : List (List Int)) (h : MuOk B C) : CallA Tryz.prog 21 [aCu B C] [rI (muU B C)] [] := by
 have hD := curveDelta_c B C h
 have hd := dlTo_in h B.length (Nat.le_refl _)
 have hn := h.n6
 unfold muU
 clear h
 generalize dlTo B C B.length = d at *
 refine cA_ _ Tryz.func21 rfl Tryz.ntmps21 sO_ ?_
 repeat' (first | (refine w2_ ?_ ?_ <;> intro _) | (guard_target =~ CallN_; first | refine RunU.cons (sC_ (hD) (.sh .nil) (.shAgg rfl gA_ .nil) rfl) ?_) | refine goA ?_ | (refine neA ?_; first | refine nxA ?_ | refine Done.ret (.one rA_ .nil) (.sh .nil) ?_ rfl) | fail)
 all_goals first | rfl | (exfalso; omega)
theorem l09Milnor_c (B C : List (List Int)) (h : MuOk B C) : CallA Tryz.prog 57 [aCu B C] [rI (muU B C)] [] := by
 have hD := l09Delta_c B C h
 have hd := dlTo_in h B.length (Nat.le_refl _)
 have hn := h.n6
 unfold muU
 clear h
 generalize dlTo B C B.length = d at *
 refine cA_ _ Tryz.func57 rfl Tryz.ntmps57 sO_ ?_
 repeat' (first | (refine w2_ ?_ ?_ <;> intro _) | (guard_target =~ CallN_; first | refine RunU.cons (sC_ (hD) (.sh .nil) (.shAgg rfl gA_ .nil) rfl) ?_) | refine goA ?_ | (refine neA ?_; first | refine nxA ?_ | refine Done.ret (.one rA_ .nil) (.sh .nil) ?_ rfl) | fail)
 all_goals first | rfl | (exfalso; omega)
end Go.Proofs.YtpdfadnpfmlfgaaGreatDoor
namespace Go.Proofs.YtpdfadnpfmlfgaaGreatDoor
set_option maxRecDepth 100000
set_option maxHeartbeats 20000000
open Go.Pv
open Go.ChangeShapes Go.WideShapes Go.ChangeAt Go.RowKit
attribute [local irreducible] RunU WpA Step CallG CallNG Done DoneN
instance fnOk26 : FnOk Tryz.prog 26 := ⟨_, Tryz.func26, rfl, by decide⟩
attribute [local irreducible] decStrict decFalls decIsBr decWithin Strict Falls IsBr Within
abbrev vCv (i : Nat) (B C : List (List Int)) : AV := .own i (.pt true [.sl false 1 (LLs B), .sl false 1 (LLs C)])
def CellS (B C : List (List Int)) (i k : Nat) : Prop :=
 (i = k → (C.getD i []).getD k 0 = 0) ∧ (i ≠ k → (1 ≤ (C.getD i []).getD k 0 ∧ (C.getD i []).getD k 0 ≤ 200) ∧ (C.getD i []).getD k 0 = (C.getD k []).getD i 0) ∧
  (i < k → Shr (codB (B.getD i [])) (codB (B.getD k [])) ((C.getD i []).getD k 0))
theorem isCu_iffS (B C : List (List Int)) : IsCu B C ↔ ((1 ≤ B.length ∧ B.length ≤ 6) ∧ C.length = B.length) ∧ (∀ i, i < B.length → IsBr (B.getD i []) ∧ (C.getD i []).length = B.length) ∧ (∀ i, i < B.length → ∀ k, k < B.length → CellS B C i k) ∧ UltT C B.length := by
 unfold IsCu IsTab RowT DiaT OffT SymT BrsT ShrT CellS
 constructor
 ·rintro ⟨h1, ⟨h2, h3, h4, h5, h6⟩, h7, h8, h9⟩
  refine ⟨⟨h1, h2⟩, fun i hi => ⟨h7 i hi, h3 i hi⟩, fun i hi k hk => ⟨fun e => by rw [← e]; exact h4 i hi, fun e => ⟨h5 i hi k hk e, h6 i hi k hk⟩, fun e => h8 i hi k hk (by omega)⟩, h9⟩
 ·rintro ⟨⟨h1, h2⟩, h3, h4, h9⟩
  have hsy : ∀ i, i < B.length → ∀ k, k < B.length → (C.getD i []).getD k 0 = (C.getD k []).getD i 0 := fun i hi k hk => by
   by_cases e : i = k
   ·rw [e]
   ·exact ((h4 i hi k hk).2.1 e).2
  refine ⟨h1, ⟨h2, fun i hi => (h3 i hi).2, fun i hi => (h4 i hi i hi).1 rfl, fun i hi k hk e => ((h4 i hi k hk).2.1 e).1, hsy⟩, fun i hi => (h3 i hi).1, fun i hi k hk e => ?_, h9⟩
  by_cases h : i < k
  ·exact (h4 i hi k hk).2.2 h
  ·rw [hsy i hi k hk]
   exact shr_symm.1 ((h4 k hk i hi).2.2 (by omega))
theorem cuS_row {B C : List (List Int)} {i : Nat} (hi : i < B.length) (h : ¬ (IsBr (B.getD i []) ∧ (C.getD i []).length = B.length)) : decide (IsCu B C) = false := decide_eq_false fun q => h (((isCu_iffS B C).1 q).2.1 i hi)
theorem cuS_cell {B C : List (List Int)} {i k : Nat} (hi : i < B.length) (hk : k < B.length) (h : ¬ CellS B C i k) : decide (IsCu B C) = false := decide_eq_false fun q => h (((isCu_iffS B C).1 q).2.2.1 i hi k hk)
theorem cuS_ult {B C : List (List Int)} {i k j : Nat} (hi : i < B.length) (hk : k < B.length) (hj : j < B.length) (h : ¬ Ult C i k j) : decide (IsCu B C) = false := decide_eq_false fun q => h (q.2.2.2.2 i hi k hk j hj)
theorem specIsCu_c (B C : List (List Int)) (hB : B.length ≤ 9223372036854775807) (hC : C.length ≤ 9223372036854775807) (hb : ∀ i, (B.getD i []).length ≤ 1000000000) (hr : ∀ i, (C.getD i []).length ≤ 9223372036854775807) : CallA Tryz.prog 26 [aCu B C] [rB (decide (IsCu B C))] [] := by
 by_cases hn : (1 ≤ B.length ∧ B.length ≤ 6) ∧ C.length = B.length
 ·have hCl := hn.2
  refine cA_ _ Tryz.func26 rfl Tryz.ntmps26 sO_ ?_
  repeat' (first | (refine w2_ ?_ ?_ <;> intro _) | refine goA ?_ | (guard_target =~ IsG; first | refine psA ?_ | refine gdA ?_) | (refine neA ?_; first | refine nxA ?_ | refine Done.ret (.one rA_ .nil) (.sh .nil) ?_ rfl) | fail)
  all_goals try (exfalso; omega)
  refine WpA.loop_slots (ι := Nat) (fun i => [(1, vCv 1 B C), (3, vQJ B.length), (4, vQJ i)]) (fun i => i ≤ B.length ∧ ∀ p, p < i → IsBr (B.getD p []) ∧ (C.getD p []).length = B.length) (fun i => B.length - i) 0 ⟨by omega, fun p hp => by omega⟩ ⟨rfl, rfl, rfl, trivial⟩ ?_
  rintro i s nx ⟨hi, hok⟩
  by_cases hlt : i < B.length
  ·have hI := specIsBr_c (B.getD (i * 1) []) (hb _)
   have hri := hr (i * 1)
   by_cases hbr : IsBr (B.getD (i * 1) [])
   ·rw [decide_eq_true hbr] at hI
    by_cases hrl : (C.getD (i * 1) []).length = B.length
    ·have hok2 : ∀ p, p < i + 1 → IsBr (B.getD p []) ∧ (C.getD p []).length = B.length := fun p hp => by
      by_cases e : p = i
      ·subst e; rw [Nat.mul_one] at hbr hrl; exact ⟨hbr, hrl⟩
      ·exact hok p (by omega)
     clear hok hbr hb hr
     repeat' (first | (refine w2_ ?_ ?_ <;> intro _) | (guard_target =~ CallN_; first | refine RunU.cons (sC_ (hI) (.sh .nil) (.shAgg rfl gA_ .nil) rfl) ?_) | refine goA ?_ | (guard_target =~ IsG; first | refine psA ?_ | (guard_target =~ CallS_; first | refine RunU.doit rfl rfl (sC_ (hI) (.sh .nil) (.shAgg rfl gA_ .nil) rfl) ?_) | refine gdA ?_) | (refine neA ?_; first | refine nxA ?_ | refine Done.ret (.one rA_ .nil) (.sh .nil) ?_ rfl) | fail)
     all_goals try (exfalso; omega)
     all_goals exact ⟨i + 1, ⟨by omega, hok2⟩, ⟨rfl, rfl, int_eq (by omega), trivial⟩, by omega⟩
    ·rw [cuS_row hlt (fun h => hrl (by rw [Nat.mul_one]; exact h.2))]
     clear hok hbr hb hr
     repeat' (first | (refine w2_ ?_ ?_ <;> intro _) | (guard_target =~ CallN_; first | refine RunU.cons (sC_ (hI) (.sh .nil) (.shAgg rfl gA_ .nil) rfl) ?_) | refine goA ?_ | (guard_target =~ IsG; first | refine psA ?_ | (guard_target =~ CallS_; first | refine RunU.doit rfl rfl (sC_ (hI) (.sh .nil) (.shAgg rfl gA_ .nil) rfl) ?_) | refine gdA ?_) | (refine neA ?_; first | refine nxA ?_ | refine Done.ret (.one rA_ .nil) (.sh .nil) ?_ rfl) | fail)
     all_goals first | rfl | (exfalso; omega)
   ·rw [decide_eq_false hbr] at hI
    rw [cuS_row hlt (fun h => hbr (by rw [Nat.mul_one]; exact h.1))]
    clear hok hbr hb hr
    repeat' (first | (refine w2_ ?_ ?_ <;> intro _) | (guard_target =~ CallN_; first | refine RunU.cons (sC_ (hI) (.sh .nil) (.shAgg rfl gA_ .nil) rfl) ?_) | refine goA ?_ | (guard_target =~ IsG; first | refine psA ?_ | (guard_target =~ CallS_; first | refine RunU.doit rfl rfl (sC_ (hI) (.sh .nil) (.shAgg rfl gA_ .nil) rfl) ?_) | refine gdA ?_) | (refine neA ?_; first | refine nxA ?_ | refine Done.ret (.one rA_ .nil) (.sh .nil) ?_ rfl) | fail)
    all_goals first | rfl | (exfalso; omega)
  ·have hall : ∀ p, p < B.length → IsBr (B.getD p []) ∧ (C.getD p []).length = B.length := fun p hp => hok p (by omega)
   have hrow : ∀ p, p < B.length → (C.getD (p * 1) []).length = B.length := fun p hp => by rw [Nat.mul_one]; exact (hall p hp).2
   clear hok hb hr
   repeat' (first | (refine w2_ ?_ ?_ <;> intro _) | refine goA ?_ | (guard_target =~ IsG; first | refine psA ?_ | refine gdA ?_) | (refine neA ?_; first | refine nxA ?_ | refine Done.ret (.one rA_ .nil) (.sh .nil) ?_ rfl) | fail)
   all_goals try (exfalso; omega)
   refine WpA.loop_slots (ι := Nat) (fun i => [(1, vCv 1 B C), (3, vQJ B.length), (5, vQJ i)]) (fun i => i ≤ B.length ∧ ∀ p, p < i → ∀ q, q < B.length → CellS B C p q) (fun i => B.length - i) 0 ⟨by omega, fun p hp => by omega⟩ ⟨rfl, rfl, rfl, trivial⟩ ?_
   rintro i s nx ⟨hi, hcs⟩
   by_cases hlt2 : i < B.length
   ·repeat' (first | (refine w2_ ?_ ?_ <;> intro _) | refine goA ?_ | (guard_target =~ IsG; first | refine psA ?_ | refine gdA ?_) | (refine neA ?_; first | refine nxA ?_ | refine Done.ret (.one rA_ .nil) (.sh .nil) ?_ rfl) | fail)
    all_goals try (exfalso; omega)
    refine WpA.loop_slots (ι := Nat) (fun k => [(1, vCv 1 B C), (3, vQJ B.length), (5, vQJ i), (6, vQJ k)]) (fun k => k ≤ B.length ∧ ∀ q, q < k → CellS B C i q) (fun k => B.length - k) 0 ⟨by omega, fun q hq => by omega⟩ ⟨rfl, rfl, rfl, rfl, trivial⟩ ?_
    rintro k s nx ⟨hk, hcell⟩
    by_cases hlt3 : k < B.length
    ·have hl1 := hrow i hlt2
     have hl2 := hrow k hlt3
     have hnext : CellS B C i k → ∀ q, q < k + 1 → CellS B C i q := fun h q hq => by
      by_cases e : q = k
      ·subst e; exact h
      ·exact hcell q (by omega)
     have hno := fun h => cuS_cell hlt2 hlt3 (B := B) (C := C) h
     have hbi := (hall i hlt2).1
     have hbk := (hall k hlt3).1
     rw [← Nat.mul_one i] at hbi
     rw [← Nat.mul_one k] at hbk
     have hI := l01In_c ((C.getD (i * 1) []).getD (k * 1) 0) 1 200
     clear hcs hcell hall hrow
     by_cases e : i = k
     ·by_cases hz : (C.getD (i * 1) []).getD (k * 1) 0 = 0
      ·have hnext := hnext ⟨fun _ => by simpa only [Nat.mul_one] using hz, fun h => absurd e h, fun h => by omega⟩
       clear hno hbi hbk
       repeat' (first | (refine w2_ ?_ ?_ <;> intro _) | refine goA ?_ | (guard_target =~ IsG; first | refine psA ?_ | refine gdA ?_) | (refine neA ?_; first | refine nxA ?_ | refine Done.ret (.one rA_ .nil) (.sh .nil) ?_ rfl) | fail)
       all_goals try (exfalso; omega)
       all_goals exact ⟨k + 1, ⟨by omega, hnext⟩, ⟨rfl, rfl, rfl, int_eq (by omega), trivial⟩, by omega⟩
      ·rw [hno (fun h => hz (by simpa only [Nat.mul_one] using h.1 e))]
       clear hno hbi hbk hnext
       repeat' (first | (refine w2_ ?_ ?_ <;> intro _) | refine goA ?_ | (guard_target =~ IsG; first | refine psA ?_ | refine gdA ?_) | (refine neA ?_; first | refine nxA ?_ | refine Done.ret (.one rA_ .nil) (.sh .nil) ?_ rfl) | fail)
       all_goals first | rfl | (exfalso; omega)
     ·by_cases hx : 1 ≤ (C.getD (i * 1) []).getD (k * 1) 0 ∧ (C.getD (i * 1) []).getD (k * 1) 0 ≤ 200
      ·rw [decide_eq_true hx] at hI
       by_cases hs : (C.getD (i * 1) []).getD (k * 1) 0 = (C.getD (k * 1) []).getD (i * 1) 0
       ·by_cases hik : i < k
        ·have hP := l09Pair_c (B.getD (i * 1) []) (B.getD (k * 1) []) hbi hbk ((C.getD (i * 1) []).getD (k * 1) 0) hx
         by_cases hsh : Shr (codB (B.getD (i * 1) [])) (codB (B.getD (k * 1) [])) ((C.getD (i * 1) []).getD (k * 1) 0)
         ·rw [decide_eq_true hsh] at hP
          have hnext := hnext ⟨fun h => absurd h e, fun _ => by simpa only [Nat.mul_one] using And.intro hx hs, fun _ => by simpa only [Nat.mul_one] using hsh⟩
          clear hno hbi hbk hsh
          repeat' (first | (refine w2_ ?_ ?_ <;> intro _) | (guard_target =~ CallN_; first | refine RunU.cons (sC_ (hI) (.sh (.sh (.sh .nil))) (.sh wS_ (.sh wS_ (.sh wS_ .nil))) rfl) ?_ | refine RunU.cons (sC_ (hP) (.sh (.sh (.sh .nil))) (.shAgg rfl gA_ (.shAgg rfl gA_ (.sh wS_ .nil))) rfl) ?_) | refine goA ?_ | (guard_target =~ IsG; first | refine psA ?_ | (guard_target =~ CallS_; first | refine RunU.doit rfl rfl (sC_ (hI) (.sh (.sh (.sh .nil))) (.sh wS_ (.sh wS_ (.sh wS_ .nil))) rfl) ?_ | refine RunU.doit rfl rfl (sC_ (hP) (.sh (.sh (.sh .nil))) (.shAgg rfl gA_ (.shAgg rfl gA_ (.sh wS_ .nil))) rfl) ?_) | refine gdA ?_) | (refine neA ?_; first | refine nxA ?_ | refine Done.ret (.one rA_ .nil) (.sh .nil) ?_ rfl) | fail)
          all_goals try (exfalso; omega)
          all_goals exact ⟨k + 1, ⟨by omega, hnext⟩, ⟨rfl, rfl, rfl, int_eq (by omega), trivial⟩, by omega⟩
         ·rw [decide_eq_false hsh] at hP
          rw [hno (fun h => hsh (by simpa only [Nat.mul_one] using h.2.2 hik))]
          clear hno hbi hbk hsh hnext
          repeat' (first | (refine w2_ ?_ ?_ <;> intro _) | (guard_target =~ CallN_; first | refine RunU.cons (sC_ (hI) (.sh (.sh (.sh .nil))) (.sh wS_ (.sh wS_ (.sh wS_ .nil))) rfl) ?_ | refine RunU.cons (sC_ (hP) (.sh (.sh (.sh .nil))) (.shAgg rfl gA_ (.shAgg rfl gA_ (.sh wS_ .nil))) rfl) ?_) | refine goA ?_ | (guard_target =~ IsG; first | refine psA ?_ | (guard_target =~ CallS_; first | refine RunU.doit rfl rfl (sC_ (hI) (.sh (.sh (.sh .nil))) (.sh wS_ (.sh wS_ (.sh wS_ .nil))) rfl) ?_ | refine RunU.doit rfl rfl (sC_ (hP) (.sh (.sh (.sh .nil))) (.shAgg rfl gA_ (.shAgg rfl gA_ (.sh wS_ .nil))) rfl) ?_) | refine gdA ?_) | (refine neA ?_; first | refine nxA ?_ | refine Done.ret (.one rA_ .nil) (.sh .nil) ?_ rfl) | fail)
          all_goals first | rfl | (exfalso; omega)
        ·have hnext := hnext ⟨fun h => absurd h e, fun _ => by simpa only [Nat.mul_one] using And.intro hx hs, fun h => absurd h hik⟩
         clear hno hbi hbk
         repeat' (first | (refine w2_ ?_ ?_ <;> intro _) | (guard_target =~ CallN_; first | refine RunU.cons (sC_ (hI) (.sh (.sh (.sh .nil))) (.sh wS_ (.sh wS_ (.sh wS_ .nil))) rfl) ?_) | refine goA ?_ | (guard_target =~ IsG; first | refine psA ?_ | (guard_target =~ CallS_; first | refine RunU.doit rfl rfl (sC_ (hI) (.sh (.sh (.sh .nil))) (.sh wS_ (.sh wS_ (.sh wS_ .nil))) rfl) ?_) | refine gdA ?_) | (refine neA ?_; first | refine nxA ?_ | refine Done.ret (.one rA_ .nil) (.sh .nil) ?_ rfl) | fail)
         all_goals try (exfalso; omega)
         all_goals exact ⟨k + 1, ⟨by omega, hnext⟩, ⟨rfl, rfl, rfl, int_eq (by omega), trivial⟩, by omega⟩
       ·rw [hno (fun h => hs (by simpa only [Nat.mul_one] using (h.2.1 e).2))]
        clear hno hbi hbk hnext
        repeat' (first | (refine w2_ ?_ ?_ <;> intro _) | (guard_target =~ CallN_; first | refine RunU.cons (sC_ (hI) (.sh (.sh (.sh .nil))) (.sh wS_ (.sh wS_ (.sh wS_ .nil))) rfl) ?_) | refine goA ?_ | (guard_target =~ IsG; first | refine psA ?_ | (guard_target =~ CallS_; first | refine RunU.doit rfl rfl (sC_ (hI) (.sh (.sh (.sh .nil))) (.sh wS_ (.sh wS_ (.sh wS_ .nil))) rfl) ?_) | refine gdA ?_) | (refine neA ?_; first | refine nxA ?_ | refine Done.ret (.one rA_ .nil) (.sh .nil) ?_ rfl) | fail)
        all_goals first | rfl | (exfalso; omega)
      ·rw [decide_eq_false hx] at hI
       rw [hno (fun h => hx (by simpa only [Nat.mul_one] using (h.2.1 e).1))]
       clear hno hbi hbk hnext
       repeat' (first | (refine w2_ ?_ ?_ <;> intro _) | (guard_target =~ CallN_; first | refine RunU.cons (sC_ (hI) (.sh (.sh (.sh .nil))) (.sh wS_ (.sh wS_ (.sh wS_ .nil))) rfl) ?_) | refine goA ?_ | (guard_target =~ IsG; first | refine psA ?_ | (guard_target =~ CallS_; first | refine RunU.doit rfl rfl (sC_ (hI) (.sh (.sh (.sh .nil))) (.sh wS_ (.sh wS_ (.sh wS_ .nil))) rfl) ?_) | refine gdA ?_) | (refine neA ?_; first | refine nxA ?_ | refine Done.ret (.one rA_ .nil) (.sh .nil) ?_ rfl) | fail)
       all_goals first | rfl | (exfalso; omega)
    ·have hcs2 : ∀ p, p < i + 1 → ∀ q, q < B.length → CellS B C p q := fun p hp q hq => by
      by_cases e : p = i
      ·subst e; exact hcell q (by omega)
      ·exact hcs p (by omega) q hq
     clear hcell hcs hall hrow
     repeat' (first | (refine w2_ ?_ ?_ <;> intro _) | refine goA ?_ | (guard_target =~ IsG; first | refine psA ?_ | refine gdA ?_) | (refine neA ?_; first | refine nxA ?_ | refine Done.ret (.one rA_ .nil) (.sh .nil) ?_ rfl) | fail)
     all_goals try (exfalso; omega)
     all_goals exact ⟨i + 1, ⟨by omega, hcs2⟩, ⟨rfl, rfl, int_eq (by omega), trivial⟩, by omega⟩
   ·have hcs2 : ∀ p, p < B.length → ∀ q, q < B.length → CellS B C p q := fun p hp => hcs p (by omega)
    clear hcs
    repeat' (first | (refine w2_ ?_ ?_ <;> intro _) | refine goA ?_ | (guard_target =~ IsG; first | refine psA ?_ | refine gdA ?_) | (refine neA ?_; first | refine nxA ?_ | refine Done.ret (.one rA_ .nil) (.sh .nil) ?_ rfl) | fail)
    all_goals try (exfalso; omega)
    refine WpA.loop_slots (ι := Nat) (fun i => [(1, vCv 1 B C), (3, vQJ B.length), (8, vQJ i)]) (fun i => i ≤ B.length ∧ ∀ p, p < i → ∀ q, q < B.length → ∀ r, r < B.length → Ult C p q r) (fun i => B.length - i) 0 ⟨by omega, fun p hp => by omega⟩ ⟨rfl, rfl, rfl, trivial⟩ ?_
    rintro i s nx ⟨hi, hu0⟩
    by_cases hlt2 : i < B.length
    ·repeat' (first | (refine w2_ ?_ ?_ <;> intro _) | refine goA ?_ | (guard_target =~ IsG; first | refine psA ?_ | refine gdA ?_) | (refine neA ?_; first | refine nxA ?_ | refine Done.ret (.one rA_ .nil) (.sh .nil) ?_ rfl) | fail)
     all_goals try (exfalso; omega)
     refine WpA.loop_slots (ι := Nat) (fun k => [(1, vCv 1 B C), (3, vQJ B.length), (8, vQJ i), (9, vQJ k)]) (fun k => k ≤ B.length ∧ ∀ q, q < k → ∀ r, r < B.length → Ult C i q r) (fun k => B.length - k) 0 ⟨by omega, fun q hq => by omega⟩ ⟨rfl, rfl, rfl, rfl, trivial⟩ ?_
     rintro k s nx ⟨hk, hu1⟩
     by_cases hlt3 : k < B.length
     ·repeat' (first | (refine w2_ ?_ ?_ <;> intro _) | refine goA ?_ | (guard_target =~ IsG; first | refine psA ?_ | refine gdA ?_) | (refine neA ?_; first | refine nxA ?_ | refine Done.ret (.one rA_ .nil) (.sh .nil) ?_ rfl) | fail)
      all_goals try (exfalso; omega)
      refine WpA.loop_slots (ι := Nat) (fun j => [(1, vCv 1 B C), (3, vQJ B.length), (8, vQJ i), (9, vQJ k), (10, vQJ j)]) (fun j => j ≤ B.length ∧ ∀ r, r < j → Ult C i k r) (fun j => B.length - j) 0 ⟨by omega, fun r hr => by omega⟩ ⟨rfl, rfl, rfl, rfl, rfl, trivial⟩ ?_
      rintro j s nx ⟨hj, hu2⟩
      by_cases hlt4 : j < B.length
      ·have hl1 := hrow i hlt2
       have hl2 := hrow j hlt4
       by_cases hu : Ult C i k j
       ·have hul2 : ∀ r, r < j + 1 → Ult C i k r := fun r hr => by
         by_cases e2 : r = j
         ·subst e2; exact hu
         ·exact hu2 r (by omega)
        have hu3 : i ≠ k → j ≠ i → j ≠ k → min ((C.getD (i * 1) []).getD (j * 1) 0) ((C.getD (j * 1) []).getD (k * 1) 0) ≤ (C.getD (i * 1) []).getD (k * 1) 0 := by simp only [Nat.mul_one]; exact hu
        clear hu hu0 hu1 hu2 hcs2 hall hrow
        repeat' (first | (refine w2_ ?_ ?_ <;> intro _) | refine goA ?_ | (guard_target =~ IsG; first | refine psA ?_ | refine gdA ?_) | (refine neA ?_; first | refine nxA ?_ | refine Done.ret (.one rA_ .nil) (.sh .nil) ?_ rfl) | fail)
        all_goals try (exfalso; omega)
        all_goals exact ⟨j + 1, ⟨by omega, hul2⟩, ⟨rfl, rfl, rfl, rfl, int_eq (by omega), trivial⟩, by omega⟩
       ·rw [cuS_ult hlt2 hlt3 hlt4 hu]
        have hu3 : ¬ (i ≠ k → j ≠ i → j ≠ k → min ((C.getD (i * 1) []).getD (j * 1) 0) ((C.getD (j * 1) []).getD (k * 1) 0) ≤ (C.getD (i * 1) []).getD (k * 1) 0) := by simp only [Nat.mul_one]; exact hu
        clear hu hu0 hu1 hu2 hcs2 hall hrow
        repeat' (first | (refine w2_ ?_ ?_ <;> intro _) | refine goA ?_ | (guard_target =~ IsG; first | refine psA ?_ | refine gdA ?_) | (refine neA ?_; first | refine nxA ?_ | refine Done.ret (.one rA_ .nil) (.sh .nil) ?_ rfl) | fail)
        all_goals first | rfl | (exfalso; omega)
      ·have hu4 : ∀ q, q < k + 1 → ∀ r, r < B.length → Ult C i q r := fun q hq r hr => by
        by_cases e2 : q = k
        ·subst e2; exact hu2 r (by omega)
        ·exact hu1 q (by omega) r hr
       clear hu2 hu1 hu0 hcs2 hall hrow
       repeat' (first | (refine w2_ ?_ ?_ <;> intro _) | refine goA ?_ | (guard_target =~ IsG; first | refine psA ?_ | refine gdA ?_) | (refine neA ?_; first | refine nxA ?_ | refine Done.ret (.one rA_ .nil) (.sh .nil) ?_ rfl) | fail)
       all_goals try (exfalso; omega)
       all_goals exact ⟨k + 1, ⟨by omega, hu4⟩, ⟨rfl, rfl, rfl, int_eq (by omega), trivial⟩, by omega⟩
     ·have hu4 : ∀ p, p < i + 1 → ∀ q, q < B.length → ∀ r, r < B.length → Ult C p q r := fun p hp q hq => by
       by_cases e2 : p = i
       ·subst e2; exact hu1 q (by omega)
       ·exact hu0 p (by omega) q hq
      clear hu1 hu0 hcs2 hall hrow
      repeat' (first | (refine w2_ ?_ ?_ <;> intro _) | refine goA ?_ | (guard_target =~ IsG; first | refine psA ?_ | refine gdA ?_) | (refine neA ?_; first | refine nxA ?_ | refine Done.ret (.one rA_ .nil) (.sh .nil) ?_ rfl) | fail)
      all_goals try (exfalso; omega)
      all_goals exact ⟨i + 1, ⟨by omega, hu4⟩, ⟨rfl, rfl, int_eq (by omega), trivial⟩, by omega⟩
    ·rw [decide_eq_true ((isCu_iffS B C).2 ⟨hn, hall, hcs2, fun p hp => hu0 p (by omega)⟩)]
     clear hu0 hcs2 hall hrow
     repeat' (first | (refine w2_ ?_ ?_ <;> intro _) | refine goA ?_ | (guard_target =~ IsG; first | refine psA ?_ | refine gdA ?_) | (refine neA ?_; first | refine nxA ?_ | refine Done.ret (.one rA_ .nil) (.sh .nil) ?_ rfl) | fail)
     all_goals first | rfl | (exfalso; omega)
 ·rw [decide_eq_false (fun q : IsCu B C => hn ⟨q.1, q.2.1.1⟩)]
  clear hb hr
  refine cA_ _ Tryz.func26 rfl Tryz.ntmps26 sO_ ?_
  repeat' (first | (refine w2_ ?_ ?_ <;> intro _) | refine goA ?_ | (guard_target =~ IsG; first | refine psA ?_ | refine gdA ?_) | (refine neA ?_; first | refine nxA ?_ | refine Done.ret (.one rA_ .nil) (.sh .nil) ?_ rfl) | fail)
  all_goals first | rfl | (exfalso; omega)
end Go.Proofs.YtpdfadnpfmlfgaaGreatDoor
namespace Go.Proofs.YtpdfadnpfmlfgaaGreatDoor
set_option maxHeartbeats 20000000
open Go.Pv
open Go.ChangeShapes Go.WideShapes Go.ChangeAt Go.RowKit
attribute [local irreducible] RunU WpA Step CallG CallNG Done DoneN
structure IsC (B C : List (List Int)) : Prop where
 n : 1 ≤ B.length ∧ B.length ≤ 6
 cl : C.length = B.length
 br : ∀ i, i < B.length → IsBr (B.getD i [])
 rl : ∀ i, i < B.length → (C.getD i []).length = B.length
 en : ∀ i, i < B.length → ∀ k, k < B.length → i ≠ k → 1 ≤ (C.getD i []).getD k 0 ∧ (C.getD i []).getD k 0 ≤ 200
theorem IsC.of {B C : List (List Int)} (h : IsCu B C) : IsC B C := by
 unfold IsCu at h
 obtain ⟨h1, ⟨h2, h3, _, h5, _⟩, h6, _⟩ := h
 exact ⟨h1, h2, h6, h3, h5⟩
theorem IsC.mu {B C : List (List Int)} (h : IsC B C) : MuOk B C :=
 ⟨h.n.2, h.cl, h.br, fun i hi => by rw [h.rl i hi]; exact Nat.le_refl _, fun i hi k hk => by have := h.en i hi k (by omega) (by omega); omega⟩
theorem dotW_pos {a b : List Int} (ha : ∀ i, i < a.length → 1 ≤ a.getD i 0) (hb : ∀ i, i < b.length → 1 ≤ b.getD i 0) : ∀ j, j ≤ a.length → j ≤ b.length → (j : Int) ≤ dotW a b j
 | 0, _, _ => by simp [dotW]
 | j + 1, h1, h2 => by
  have ih := dotW_pos ha hb j (by omega) (by omega)
  have h3 : 1 * 1 ≤ a.getD j 0 * b.getD j 0 := Int.mul_le_mul (ha j (by omega)) (hb j (by omega)) (by decide) (by have := ha j (by omega); omega)
  rw [dotW]
  omega
theorem mulK_pos {l : List Int} (h : IsBr l) (k i : Nat) (hi : i < (mulK l k).length) : 1 ≤ (mulK l k).getD i 0 := by
 have := (mulK_un h k).2 _ (List.getElem_mem hi)
 rw [List.getD_eq_getElem?_getD, List.getElem?_eq_getElem hi, Option.getD_some]
 omega
theorem mtI_pos {a b : List Int} (ha : IsBr a) (hb : IsBr b) {c : Int} (hc : 1 ≤ c) : 1 ≤ mtI a b c := by
 have := dotW_pos (mulK_pos ha c.toNat) (mulK_pos hb c.toNat) c.toNat (by rw [mulK_len]; exact Nat.le_refl _) (by rw [mulK_len]; exact Nat.le_refl _)
 unfold mtI
 omega
theorem mtRow_pos {B C : List (List Int)} (h : IsC B C) {i : Nat} (hi : i < B.length) : ∀ k, k ≤ i → (k : Int) ≤ mtRow B C i k
 | 0, _ => by simp [mtRow]
 | k + 1, hk => by
  have ih := mtRow_pos h hi k (by omega)
  have h1 := mtI_pos (h.br i hi) (h.br k (by omega)) (h.en i hi k (by omega) (by omega)).1
  rw [mtRow, Nat.mul_one, Nat.mul_one]
  omega
theorem dlTo_pos {B C : List (List Int)} (h : IsC B C) : ∀ i, i ≤ B.length → (i : Int) ≤ 2 * dlTo B C i + 1
 | 0, _ => by simp [dlTo]
 | i + 1, hi => by
  have ih := dlTo_pos h i (by omega)
  have h1 := mtRow_pos h (i := i) (by omega) i (Nat.le_refl _)
  have h2 := (dlI_in (h.br i (by omega))).1
  rw [dlTo, Nat.mul_one]
  by_cases e : i = 0
  ·subst e
   simp only [dlTo] at *
   omega
  ·omega
theorem muU_pos {B C : List (List Int)} (h : IsC B C) : 0 ≤ muU B C := by
 have := dlTo_pos h B.length (Nat.le_refl _)
 unfold muU
 omega
end Go.Proofs.YtpdfadnpfmlfgaaGreatDoor
