/- Neighbours in plain words; F and G of branches; what a walk through a forest computes. No condition. -/
import Derived.Test.YtmgmpnhlehonmaaGreatOSpA
import Derived.Test.YtmgmpnhlehonmaaGreatOGrC
set_option linter.unusedVariables false
set_option linter.unusedSimpArgs false
namespace Go.Proofs.YtmgmpnhlehonmaaGreat
set_option maxHeartbeats 20000000
open Go.Pv
open Go.ChangeShapes Go.WideShapes Go.ChangeAt Go.RowKit
attribute [local irreducible] RunU WpA Step CallG CallNG Done DoneN
abbrev vGI (x : Int) : AV := .c (.lit (.int .i64 x))
theorem cut_len {A L : List Int} {i : Nat} (h : A.length = L.length) (hi : i ≤ L.length) : (A.take i ++ L.drop i).length = L.length := by
 simp only [List.length_append, List.length_take, List.length_drop]; omega
theorem cut_at {A L : List Int} {i k : Nat} (h : A.length = L.length) (hi : i ≤ L.length) : (A.take i ++ L.drop i).getD k 0 = if k < i then A.getD k 0 else L.getD k 0 := by
 have hl : (A.take i).length = i := by rw [List.length_take]; omega
 simp only [List.getD_eq_getElem?_getD]
 by_cases hk : k < i
 ·rw [if_pos hk, List.getElem?_append_left (by omega), List.getElem?_take, if_pos hk]
 ·rw [if_neg hk, List.getElem?_append_right (by omega), hl, List.getElem?_drop, show i + (k - i) = k by omega]
theorem ext0 {A B : List Int} (h : A.length = B.length) (hk : ∀ k, k < A.length → A.getD k 0 = B.getD k 0) : A = B := by
 refine List.ext_getElem h fun k h1 h2 => ?_
 have := hk k h1
 simpa [List.getD, h1, h2] using this
theorem getD_set {L : List Int} {i k : Nat} {v : Int} (hi : i < L.length) : (L.set i v).getD k 0 = if i = k then v else L.getD k 0 := by
 simp only [List.getD_eq_getElem?_getD, List.getElem?_set]
 split
 ·rename_i e; subst e; simp [hi]
 ·rfl
theorem cut_set {A L : List Int} {i : Nat} {v : Int} (h : A.length = L.length) (hi : i < L.length) (hv : v = A.getD i 0) : (A.take i ++ L.drop i).set i v = A.take (i + 1) ++ L.drop (i + 1) := by
 have h1 := cut_len h (show i ≤ L.length by omega)
 have h2 := cut_len h (show i + 1 ≤ L.length by omega)
 refine ext0 (by rw [List.length_set, h1, h2]) fun k hk => ?_
 rw [getD_set (by omega), cut_at h (by omega), cut_at h (by omega)]
 by_cases e : i = k
 ·subst e; rw [if_pos rfl, if_pos (by omega), hv]
 ·rw [if_neg e]
  by_cases e2 : k < i
  ·rw [if_pos e2, if_pos (by omega)]
  ·rw [if_neg e2, if_neg (by omega)]
theorem cut_same {A L : List Int} {i : Nat} (h : A.length = L.length) (hi : i < L.length) (hv : A.getD i 0 = L.getD i 0) : A.take i ++ L.drop i = A.take (i + 1) ++ L.drop (i + 1) := by
 have h1 := cut_len h (show i ≤ L.length by omega)
 have h2 := cut_len h (show i + 1 ≤ L.length by omega)
 refine ext0 (by rw [h1, h2]) fun k hk => ?_
 rw [cut_at h (by omega), cut_at h (by omega)]
 by_cases e : i = k
 ·subst e; rw [if_neg (by omega), if_pos (by omega), hv]
 ·by_cases e2 : k < i
  ·rw [if_pos e2, if_pos (by omega)]
  ·rw [if_neg e2, if_neg (by omega)]
theorem cut_all {A L : List Int} (h : A.length = L.length) : A.take L.length ++ L.drop L.length = A := by
 rw [List.drop_length, List.append_nil, ← h, List.take_length]
def finL (n : Nat) (L : List Int) : List Int := (List.range n).map fun i : Nat => (cnt (isRoot L) (L.getD i 0).toNat : Int)
theorem finL_len (n : Nat) (L : List Int) : (finL n L).length = n := by simp [finL]
theorem finL_at {n : Nat} {L : List Int} {i : Nat} (h : i < n) : (finL n L).getD i 0 = cnt (isRoot L) (L.getD i 0).toNat := by simp [finL, List.getD, h]
theorem max_fin {n : Nat} {L : List Int} (h : Roots n L) : ∀ j, j < n → maxTo (finL n L) j + 1 = cnt (isRoot L) (j + 1)
 | 0, hj => by
  have h0 := h.2 0 hj
  have e : L.getD 0 0 = 0 := by omega
  rw [maxTo, finL_at hj, e]
  have : isRoot L 0 = true := by unfold isRoot; rw [e]; rfl
  simp [cnt, this]
 | j + 1, hj => by
  have ih := max_fin h j (by omega)
  obtain ⟨h0, h1, h2⟩ := h.2 (j + 1) hj
  rw [maxTo, finL_at hj, cnt]
  by_cases hr : L.getD (j + 1) 0 = ((j + 1 : Nat) : Int)
  ·have : isRoot L (j + 1) = true := by unfold isRoot; rw [hr]; simp
   rw [this, hr, Int.toNat_natCast]
   simp
   omega
  ·have : isRoot L (j + 1) = false := by unfold isRoot; simpa using hr
   rw [this]
   have := cnt_lt (isRoot L) (a := (L.getD (j + 1) 0).toNat) (b := j + 1) (by omega) (by unfold isRoot; rw [h2, beq_iff_eq]; omega)
   show max (maxTo (finL n L) j) (cnt (isRoot L) (L.getD (j + 1) 0).toNat : Int) + 1 = ((cnt (isRoot L) (j + 1) + 0 : Nat) : Int)
   omega
theorem labels_c (n : Nat) (E : List (List Int)) (hn : n ≤ 40) (hE : E.length ≤ 2000000) (hg : GoodE n E) : CallA Tryz.prog 140 [aI n, aLL E] [rL (finL n (labI n E E.length))] [] := by
 refine cA_ _ Tryz.func140 rfl Tryz.ntmps140 sO_ ?_
 have hil := iota_len n
 repeat' (first | (refine Two.mk ?_ ?_ <;> intro _) | refine goA ?_ | refine nxA ?_ | refine Done.ret (.one rA_ .nil) (.sh (.sh .nil)) ?_ rfl)
 refine WpA.loop_slots2 (fun j id => [(1, .c (.sl false 1 (LLs E))), (5, .own id (.sl true 1 (ints ((iota n).take j ++ List.replicate (n - j) 0)))), (17, vGI n), (18, vGI j)]) (fun j => j ≤ n) (fun j => n - j) 0 _ (by omega) ⟨rfl, by exact own_ints (by simp), int_eq (by simp), rfl, trivial⟩ ?_
 intro j id s nx hj
 have hll : ((iota n).take j ++ List.replicate (n - j) 0).length = n := by
  simp only [List.length_append, List.length_take, List.length_replicate]; omega
 by_cases hlt : j < n
 ·have e1 : ((iota n).take j ++ List.replicate (n - j) 0).set (j * 1) (j : Int) = (iota n).take (j + 1) ++ List.replicate (n - (j + 1)) 0 := by
   have := fill_step (iota n) j (by omega)
   rw [iota_at hlt, hil] at this
   rw [Nat.mul_one]; exact this
  generalize (iota n).take j ++ List.replicate (n - j) 0 = A at *
  repeat' (first | (refine Two.mk ?_ ?_ <;> intro _) | refine goA ?_ | refine nxA ?_ | refine Done.ret (.one rA_ .nil) (.sh (.sh .nil)) ?_ rfl)
  all_goals try (exfalso; omega)
  exact ⟨j + 1, by omega, ⟨_, rfl, by exact own_ints e1, rfl, int_eq (by omega), trivial⟩, by omega⟩
 ·have e0 : j = n := by omega
  have e1 : (iota n).take j ++ List.replicate (n - j) 0 = labI n E 0 := by
   rw [e0, Nat.sub_self, List.replicate_zero, List.append_nil, List.take_of_length_le (by omega)]; rfl
  rw [e1]
  repeat' (first | (refine Two.mk ?_ ?_ <;> intro _) | refine goA ?_ | refine nxA ?_ | refine Done.ret (.one rA_ .nil) (.sh (.sh .nil)) ?_ rfl)
  all_goals try (exfalso; omega)
  refine WpA.loop_slots2 (fun j id => [(1, .c (.sl false 1 (LLs E))), (5, .own id (.sl true 1 (ints (labI n E j)))), (26, .c (.sl false 1 (LLs E))), (27, vGI E.length), (28, vGI j)]) (fun j => j ≤ E.length) (fun j => E.length - j) 0 _ (by omega) ⟨rfl, xR_, rfl, rfl, rfl, trivial⟩ ?_
  intro j id s nx hj
  have hl := labI_len n E j
  by_cases hlt : j < E.length
  ·have g := hg j hlt
   have r0 : (E.getD (j * 1) []).getD (0 * 1) 0 = ea E j := by rw [Nat.mul_one]; rfl
   have r1 : (E.getD (j * 1) []).getD (1 * 1) 0 = eb E j := by rw [Nat.mul_one]; rfl
   have r2 : (E.getD (j * 1) []).length = 2 := by rw [Nat.mul_one]; exact g.1
   have g1 := g.2.1
   rw [← r0, ← r1] at g1
   have p1 : min ((labI n E j).getD (((E.getD (j * 1) []).getD (0 * 1) 0).toNat * 1) 0) ((labI n E j).getD (((E.getD (j * 1) []).getD (1 * 1) 0).toNat * 1) 0) = min ((labI n E j).getD (ea E j).toNat 0) ((labI n E j).getD (eb E j).toNat 0) := by rw [r0, r1, Nat.mul_one, Nat.mul_one]
   have p2 : max ((labI n E j).getD (((E.getD (j * 1) []).getD (0 * 1) 0).toNat * 1) 0) ((labI n E j).getD (((E.getD (j * 1) []).getD (1 * 1) 0).toNat * 1) 0) = max ((labI n E j).getD (ea E j).toNat 0) ((labI n E j).getD (eb E j).toNat 0) := by rw [r0, r1, Nat.mul_one, Nat.mul_one]
   have hnext : labI n E (j + 1) = mrg (min ((labI n E j).getD (ea E j).toNat 0) ((labI n E j).getD (eb E j).toNat 0)) (max ((labI n E j).getD (ea E j).toNat 0) ((labI n E j).getD (eb E j).toNat 0)) (labI n E j) := rfl
   rw [← p1, ← p2] at hnext
   have hl2 := labI_len n E (j + 1)
   generalize hL : labI n E j = L at *
   repeat' (first | (refine Two.mk ?_ ?_ <;> intro _) | refine goA ?_ | refine nxA ?_ | refine Done.ret (.one rA_ .nil) (.sh (.sh .nil)) ?_ rfl)
   all_goals try (exfalso; omega)
   generalize hp : min (L.getD (((E.getD (j * 1) []).getD (0 * 1) 0).toNat * 1) 0) (L.getD (((E.getD (j * 1) []).getD (1 * 1) 0).toNat * 1) 0) = p at *
   generalize hq : max (L.getD (((E.getD (j * 1) []).getD (0 * 1) 0).toNat * 1) 0) (L.getD (((E.getD (j * 1) []).getD (1 * 1) 0).toNat * 1) 0) = q at *
   generalize hM : labI n E (j + 1) = M at *
   refine WpA.loop_slots2 (fun i id => [(1, .c (.sl false 1 (LLs E))), (5, .own id (.sl true 1 (ints (M.take i ++ L.drop i)))), (9, vGI p), (10, vGI q), (26, .c (.sl false 1 (LLs E))), (27, vGI E.length), (28, vGI j), (59, vGI n), (60, vGI i)]) (fun i => i ≤ n) (fun i => n - i) 0 _ (by omega) ⟨rfl, by exact own_ints (by simp), rfl, rfl, rfl, rfl, rfl, int_eq (by omega), rfl, trivial⟩ ?_
   intro i id s nx hi
   have c1 := cut_len (A := M) (L := L) (i := i) (by omega) (by omega)
   by_cases hlti : i < n
   ·have c2 : (M.take i ++ L.drop i).getD (i * 1) 0 = L.getD i 0 := by rw [Nat.mul_one, cut_at (by omega) (by omega), if_neg (by omega)]
    have m1 : M.getD i 0 = if L.getD i 0 = q then p else L.getD i 0 := by rw [hnext]; exact mrg_at (by omega)
    by_cases hiq : L.getD i 0 = q
    ·rw [if_pos hiq] at m1
     have c3 : (M.take i ++ L.drop i).set (i * 1) p = M.take (i + 1) ++ L.drop (i + 1) := by rw [Nat.mul_one]; exact cut_set (by omega) (by omega) m1.symm
     generalize M.take i ++ L.drop i = B at *
     repeat' (first | (refine Two.mk ?_ ?_ <;> intro _) | refine goA ?_ | refine nxA ?_ | refine Done.ret (.one rA_ .nil) (.sh (.sh .nil)) ?_ rfl)
     all_goals try (exfalso; omega)
     exact ⟨i + 1, by omega, ⟨_, rfl, by exact own_ints c3, rfl, rfl, rfl, rfl, rfl, rfl, int_eq (by omega), trivial⟩, by omega⟩
    ·rw [if_neg hiq] at m1
     have c3 : M.take i ++ L.drop i = M.take (i + 1) ++ L.drop (i + 1) := cut_same (by omega) (by omega) m1
     generalize M.take i ++ L.drop i = B at *
     repeat' (first | (refine Two.mk ?_ ?_ <;> intro _) | refine goA ?_ | refine nxA ?_ | refine Done.ret (.one rA_ .nil) (.sh (.sh .nil)) ?_ rfl)
     all_goals try (exfalso; omega)
     exact ⟨i + 1, by omega, ⟨_, rfl, by exact own_ints c3, rfl, rfl, rfl, rfl, rfl, rfl, int_eq (by omega), trivial⟩, by omega⟩
   ·have ei : i = L.length := by omega
    have c3 : M.take i ++ L.drop i = M := by rw [ei]; exact cut_all (by omega)
    rw [c3]
    repeat' (first | (refine Two.mk ?_ ?_ <;> intro _) | refine goA ?_ | refine nxA ?_ | refine Done.ret (.one rA_ .nil) (.sh (.sh .nil)) ?_ rfl)
    all_goals try (exfalso; omega)
    exact ⟨j + 1, by omega, ⟨_, rfl, by exact own_ints hM.symm, rfl, rfl, int_eq (by omega), trivial⟩, by omega⟩
  ·have ej : j = E.length := by omega
   rw [ej] at hl ⊢
   obtain ⟨hr, _⟩ := roots_labI E.length hg
   generalize labI n E E.length = L at *
   repeat' (first | (refine Two.mk ?_ ?_ <;> intro _) | refine goA ?_ | refine nxA ?_ | refine Done.ret (.one rA_ .nil) (.sh (.sh .nil)) ?_ rfl)
   all_goals try (exfalso; omega)
   have hfl := finL_len n L
   refine WpA.loop_slots2 (fun i id => [(5, .own id (.sl true 1 (ints ((finL n L).take i ++ L.drop i)))), (12, vGI (cnt (isRoot L) i)), (76, vGI n), (77, vGI i)]) (fun i => i ≤ n) (fun i => n - i) 0 _ (by omega) ⟨by exact own_ints (by simp), int_eq (by simp [cnt]), int_eq (by omega), rfl, trivial⟩ ?_
   intro i id s nx hi
   have c1 := cut_len (A := finL n L) (L := L) (i := i) (by omega) (by omega)
   by_cases hlti : i < n
   ·obtain ⟨h0, h1, h2⟩ := hr.2 i hlti
    have k1 := cnt_le (isRoot L) i
    have c2 : ((finL n L).take i ++ L.drop i).getD (i * 1) 0 = L.getD i 0 := by rw [Nat.mul_one, cut_at (by omega) (by omega), if_neg (by omega)]
    have f1 := finL_at (L := L) hlti
    by_cases hroot : L.getD i 0 = i
    ·rw [hroot, Int.toNat_natCast] at f1
     have c3 : ((finL n L).take i ++ L.drop i).set (i * 1) (cnt (isRoot L) i : Int) = (finL n L).take (i + 1) ++ L.drop (i + 1) := by rw [Nat.mul_one]; exact cut_set (by omega) (by omega) f1.symm
     have k2 : ((cnt (isRoot L) i : Int) + 1) = (cnt (isRoot L) (i + 1) : Nat) := by
      rw [cnt, show isRoot L i = true by unfold isRoot; rw [hroot]; simp]; rfl
     generalize (finL n L).take i ++ L.drop i = B at *
     repeat' (first | (refine Two.mk ?_ ?_ <;> intro _) | refine goA ?_ | refine nxA ?_ | refine Done.ret (.one rA_ .nil) (.sh (.sh .nil)) ?_ rfl)
     all_goals try (exfalso; omega)
     exact ⟨i + 1, by omega, ⟨_, by exact own_ints c3, int_eq k2, rfl, int_eq (by omega), trivial⟩, by omega⟩
    ·have c4 : ((finL n L).take i ++ L.drop i).getD ((L.getD i 0).toNat * 1) 0 = (finL n L).getD i 0 := by
      rw [Nat.mul_one, cut_at (by omega) (by omega), if_pos (by omega), finL_at (by omega), f1, h2]
     have c3 : ((finL n L).take i ++ L.drop i).set (i * 1) ((finL n L).getD i 0) = (finL n L).take (i + 1) ++ L.drop (i + 1) := by rw [Nat.mul_one]; exact cut_set (by omega) (by omega) rfl
     have k2 : cnt (isRoot L) (i + 1) = cnt (isRoot L) i := by
      rw [cnt, show isRoot L i = false by unfold isRoot; simpa using hroot]; rfl
     rw [← c4, ← c2] at c3
     generalize (finL n L).take i ++ L.drop i = B at *
     repeat' (first | (refine Two.mk ?_ ?_ <;> intro _) | refine goA ?_ | refine nxA ?_ | refine Done.ret (.one rA_ .nil) (.sh (.sh .nil)) ?_ rfl)
     all_goals try (exfalso; omega)
     exact ⟨i + 1, by omega, ⟨_, by exact own_ints c3, int_eq (by rw [k2]), rfl, int_eq (by omega), trivial⟩, by omega⟩
   ·have ei : i = L.length := by omega
    have c3 : (finL n L).take i ++ L.drop i = finL n L := by rw [ei]; exact cut_all (by omega)
    rw [c3]
    repeat' (first | (refine Two.mk ?_ ?_ <;> intro _) | refine goA ?_ | refine nxA ?_ | refine Done.ret (.one rA_ .nil) (.sh (.sh .nil)) ?_ rfl)
    all_goals try (exfalso; omega)
    all_goals rfl
attribute [local irreducible] IsGr decIsGr GoodE GoodAt Acy Joins
abbrev aGr (w : List Int) (E : List (List Int)) : Arg := .sh (.agg [.sl false 1 (ints w), .sl false 1 (LLs E)])
theorem implIsGraph_c (w : List Int) (E : List (List Int)) (hw : w.length ≤ 2000000) (hE : E.length ≤ 2000000) : CallA Tryz.prog 81 [aGr w E] [rB (decide (IsGr w E))] [] := by
  refine cA_ _ Tryz.func81 rfl Tryz.ntmps81 sO_ ?_
  have hwi := within_c w (-1000) 1000 (by omega)
  have hdef := isGr_def w E
  by_cases hn : 1 ≤ w.length ∧ w.length ≤ 40
  · by_cases hwt : Within w (-1000) 1000
    · by_cases hlt : E.length < w.length
      · repeat' (first | (refine Two.mk ?_ ?_ <;> intro _) | (guard_target =~ CallN_; first | refine RunU.cons (sC_ (hwi) (.sh (.sh (.sh .nil))) (.sh wS_ (.sh wS_ (.sh wS_ .nil))) rfl) ?_) | refine goA ?_ | (guard_target =~ IsG; first | refine psA ?_ | (guard_target =~ CallS_; first | refine RunU.doit rfl rfl (sC_ (hwi) (.sh (.sh (.sh .nil))) (.sh wS_ (.sh wS_ (.sh wS_ .nil))) rfl) ?_) | refine gdA ?_) | refine nxA ?_ | refine Done.ret (.one rA_ .nil) (.sh .nil) ?_ rfl)
        all_goals try (exfalso; omega)
        all_goals try (exact absurd hwt ‹_›)
        refine WpA.loop_slots (ι := Nat) (fun j => [(1, .own 1 (.pt true [.sl false 1 (ints w), .sl false 1 (LLs E)])), (3, vGI w.length), (30, .c (.sl false 1 (LLs E))), (31, vGI E.length), (32, vGI j)]) (fun j => j ≤ E.length ∧ ∀ i, i < j → GoodAt w.length E i) (fun j => E.length - j) 0 ⟨by omega, fun i hi => absurd hi (by omega)⟩ ⟨rfl, rfl, rfl, rfl, rfl, trivial⟩ ?_
        intro j s nx hj
        by_cases hje : j < E.length
        · have r0 : (E.getD (j * 1) []).getD (0 * 1) 0 = ea E j := by rw [Nat.mul_one]; rfl
          have r1 : (E.getD (j * 1) []).getD (1 * 1) 0 = eb E j := by rw [Nat.mul_one]; rfl
          have r2 : (E.getD (j * 1) []).length = (E.getD j []).length := by rw [Nat.mul_one]
          have hbad : ¬ GoodAt w.length E j → ¬ IsGr w E := fun h1 h2 => h1 (good_def.1 (hdef.1 h2).2.2.1 j hje)
          have hgd := goodAt_def (n := w.length) (E := E) (j := j)
          rw [← r0, ← r1] at hgd
          have fin : ¬ GoodAt w.length E j → [rB false] = [rB (decide (IsGr w E))] := fun h => by rw [decide_eq_false (hbad h)]
          by_cases hj0 : 0 < j
          · have l1 : (E.getD (((j : Int) - 1).toNat * 1) []).length = 2 := by
              have := (goodAt_def.1 (hj.2 (j - 1) (by omega))).1
              rw [show ((j : Int) - 1).toNat * 1 = j - 1 by omega]; exact this
            have l2 : E.getD (((j : Int) - 1).toNat * 1) [] = E.getD (j - 1) [] := by rw [show ((j : Int) - 1).toNat * 1 = j - 1 by omega]
            have l4 : lexC (E.getD (((j : Int) - 1).toNat * 1) []) (E.getD (j * 1) []) = lexC (E.getD (j - 1) []) (E.getD j []) := by rw [l2, Nat.mul_one]
            repeat' (first | (refine Two.mk ?_ ?_ <;> intro _) | (guard_target =~ CallN_; first | refine RunU.cons (sC_ (compare_c (E.getD (((j : Int) - 1).toNat * 1) []) (E.getD (j * 1) []) (by omega) (by omega)) (.sh (.sh .nil)) (.sh wS_ (.sh wS_ .nil)) rfl) ?_) | refine goA ?_ | (guard_target =~ IsG; first | refine psA ?_ | (guard_target =~ CallS_; first | refine RunU.doit rfl rfl (sC_ (compare_c (E.getD (((j : Int) - 1).toNat * 1) []) (E.getD (j * 1) []) (by omega) (by omega)) (.sh (.sh .nil)) (.sh wS_ (.sh wS_ .nil)) rfl) ?_) | refine gdA ?_) | refine nxA ?_ | refine Done.ret (.one rA_ .nil) (.sh .nil) ?_ rfl)
            all_goals try (exfalso; omega)
            all_goals first
              | (refine fin fun g => ?_
                 have g1 := hgd.1 g
                 have g2 := g1.2.2 hj0
                 omega)
              | (exact ⟨j + 1, ⟨by omega, fun i hi => by
                rcases Nat.lt_or_ge i j with k | k
                · exact hj.2 i k
                · rw [Nat.le_antisymm (Nat.le_of_lt_succ hi) k]; exact hgd.2 ⟨by omega, by omega, fun _ => by omega⟩⟩, ⟨rfl, rfl, rfl, rfl, int_eq (by omega), trivial⟩, by omega⟩)
          · obtain rfl : j = 0 := by omega
            repeat' (first | (refine Two.mk ?_ ?_ <;> intro _) | refine goA ?_ | (guard_target =~ IsG; first | refine psA ?_ | refine gdA ?_) | refine nxA ?_ | refine Done.ret (.one rA_ .nil) (.sh .nil) ?_ rfl)
            all_goals try (exfalso; omega)
            all_goals first
              | (refine fin fun g => ?_
                 have g1 := hgd.1 g
                 omega)
              | (exact ⟨0 + 1, ⟨by omega, fun i hi => by
                rcases Nat.lt_or_ge i 0 with k | k
                · exact hj.2 i k
                · rw [Nat.le_antisymm (Nat.le_of_lt_succ hi) k]; exact hgd.2 ⟨by omega, by omega, fun q => absurd q (by omega)⟩⟩, ⟨rfl, rfl, rfl, rfl, int_eq (by omega), trivial⟩, by omega⟩)
        · have ej : j = E.length := by omega
          have hg : GoodE w.length E := good_def.2 fun i hi => hj.2 i (by omega)
          have hla := labels_c w.length E hn.2 hE hg
          have hro := (roots_labI E.length (fun i hi => hj.2 i (by omega))).1
          have hmf := max_fin hro (w.length - 1) (by omega)
          have hac := acy_iff hg
          have hfl := finL_len w.length (labI w.length E E.length)
          have hcl := cnt_le (isRoot (labI w.length E E.length)) w.length
          rw [show w.length - 1 + 1 = w.length by omega] at hmf
          have hfin : IsGr w E ↔ cnt (isRoot (labI w.length E E.length)) w.length + E.length = w.length := by
            rw [hac, hdef]
            exact ⟨fun q => q.2.2.2, fun q => ⟨hn, hwt, hg, q⟩⟩
          have hmx := max_c (finL w.length (labI w.length E E.length)) (by omega) (by omega)
          rw [hfl] at hmx
          generalize maxTo (finL w.length (labI w.length E E.length)) (w.length - 1) = m at *
          generalize finL w.length (labI w.length E E.length) = F at *
          generalize cnt (isRoot (labI w.length E E.length)) w.length = c at *
          repeat' (first | (refine Two.mk ?_ ?_ <;> intro _) | (guard_target =~ CallN_; first | refine RunU.cons (sC_ (hla) (.sh (.sh .nil)) (.sh wS_ (.sh wS_ .nil)) rfl) ?_ | refine RunU.cons (sC_ (hmx) (.sh .nil) (.sh wS_ .nil) rfl) ?_) | refine goA ?_ | (guard_target =~ IsG; first | refine psA ?_ | (guard_target =~ CallS_; first | refine RunU.doit rfl rfl (sC_ (hla) (.sh (.sh .nil)) (.sh wS_ (.sh wS_ .nil)) rfl) ?_ | refine RunU.doit rfl rfl (sC_ (hmx) (.sh .nil) (.sh wS_ .nil) rfl) ?_) | refine gdA ?_) | refine nxA ?_ | refine Done.ret (.one rA_ .nil) (.sh .nil) ?_ rfl)
          all_goals try (exfalso; omega)
          refine congrArg (fun b => [rB b]) (decide_eq_decide.2 ?_)
          rw [hfin]
          omega
      · have hno : ¬ IsGr w E := fun h => hlt h.few
        repeat' (first | (refine Two.mk ?_ ?_ <;> intro _) | (guard_target =~ CallN_; first | refine RunU.cons (sC_ (hwi) (.sh (.sh (.sh .nil))) (.sh wS_ (.sh wS_ (.sh wS_ .nil))) rfl) ?_) | refine goA ?_ | (guard_target =~ IsG; first | refine psA ?_ | (guard_target =~ CallS_; first | refine RunU.doit rfl rfl (sC_ (hwi) (.sh (.sh (.sh .nil))) (.sh wS_ (.sh wS_ (.sh wS_ .nil))) rfl) ?_) | refine gdA ?_) | refine nxA ?_ | refine Done.ret (.one rA_ .nil) (.sh .nil) ?_ rfl)
        all_goals try (exfalso; omega)
        all_goals try (exact absurd hwt ‹_›)
        all_goals rw [decide_eq_false hno]
    · have hno : ¬ IsGr w E := fun h => hwt (hdef.1 h).2.1
      repeat' (first | (refine Two.mk ?_ ?_ <;> intro _) | (guard_target =~ CallN_; first | refine RunU.cons (sC_ (hwi) (.sh (.sh (.sh .nil))) (.sh wS_ (.sh wS_ (.sh wS_ .nil))) rfl) ?_) | refine goA ?_ | (guard_target =~ IsG; first | refine psA ?_ | (guard_target =~ CallS_; first | refine RunU.doit rfl rfl (sC_ (hwi) (.sh (.sh (.sh .nil))) (.sh wS_ (.sh wS_ (.sh wS_ .nil))) rfl) ?_) | refine gdA ?_) | refine nxA ?_ | refine Done.ret (.one rA_ .nil) (.sh .nil) ?_ rfl)
      all_goals try (exfalso; omega)
      all_goals try (exact absurd ‹_› hwt)
      all_goals rw [decide_eq_false hno]
  · have hno : ¬ IsGr w E := fun h => hn (hdef.1 h).1
    repeat' (first | (refine Two.mk ?_ ?_ <;> intro _) | refine goA ?_ | (guard_target =~ IsG; first | refine psA ?_ | refine gdA ?_) | refine nxA ?_ | refine Done.ret (.one rA_ .nil) (.sh .nil) ?_ rfl)
    all_goals try (exfalso; omega)
    all_goals rw [decide_eq_false hno]
end Go.Proofs.YtmgmpnhlehonmaaGreat
namespace Go.Proofs.YtmgmpnhlehonmaaGreat
set_option maxHeartbeats 20000000
open Go.Pv
open Go.ChangeShapes Go.WideShapes Go.ChangeAt Go.RowKit
attribute [local irreducible] RunU WpA Step CallG CallNG Done DoneN
instance fnOk71 : FnOk Tryz.prog 71 := ⟨_, Tryz.func71, rfl, by decide⟩
def lowN (E : List (List Int)) (v : Int) : Nat → List Int
 | 0 => []
 | j + 1 => if eb E j = v then lowN E v j ++ [ea E j] else lowN E v j
def uppN (E : List (List Int)) (v : Int) : Nat → List Int
 | 0 => []
 | j + 1 => if ea E j = v then uppN E v j ++ [eb E j] else uppN E v j
def near (E : List (List Int)) (v : Int) : List Int := lowN E v E.length ++ uppN E v E.length
theorem lowN_len (E : List (List Int)) (v : Int) : ∀ j, (lowN E v j).length ≤ j
 | 0 => Nat.le_refl _
 | j + 1 => by
  have := lowN_len E v j
  rw [lowN]
  split
  ·rw [List.length_append, List.length_singleton]; omega
  ·omega
theorem uppN_len (E : List (List Int)) (v : Int) : ∀ j, (uppN E v j).length ≤ j
 | 0 => Nat.le_refl _
 | j + 1 => by
  have := uppN_len E v j
  rw [uppN]
  split
  ·rw [List.length_append, List.length_singleton]; omega
  ·omega
theorem near_c (w : List Int) (E : List (List Int)) (v : Int) (hE : E.length ≤ 1000000) (h2 : ∀ j, j < E.length → (E.getD j []).length = 2) : CallA Tryz.prog 71 [aGr w E, aI v] [rL (near E v)] [] := by
 refine cA_ _ Tryz.func71 rfl Tryz.ntmps71 sO_ ?_
 repeat' (first | (refine Two.mk ?_ ?_ <;> intro _) | refine goA ?_ | refine nxA ?_ | refine Done.ret (.one rA_ .nil) (.sh (.sh .nil)) ?_ rfl)
 refine WpA.loop_slots2 (fun j id => [(1, vGI v), (2, .own 2 (.pt true [.sl false 1 (ints w), .sl false 1 (LLs E)])), (5, .own id (.sl true 1 (ints (lowN E v j)))), (6, vGI j)]) (fun j => j ≤ E.length) (fun j => E.length - j) 0 _ (by omega) ⟨rfl, rfl, by exact own_ints (l := []) rfl, rfl, trivial⟩ ?_
 intro j id s nx hj
 have hl := lowN_len E v j
 by_cases hlt : j < E.length
 ·have r0 : (E.getD (j * 1) []).getD (0 * 1) 0 = ea E j := by rw [Nat.mul_one]; rfl
  have r1 : (E.getD (j * 1) []).getD (1 * 1) 0 = eb E j := by rw [Nat.mul_one]; rfl
  have r2 : (E.getD (j * 1) []).length = 2 := by rw [Nat.mul_one]; exact h2 j hlt
  repeat' (first | (refine Two.mk ?_ ?_ <;> intro _) | refine goA ?_ | refine nxA ?_ | refine Done.ret (.one rA_ .nil) (.sh (.sh .nil)) ?_ rfl)
  all_goals try (exfalso; omega)
  case refine_1.refine_1 h3 h4 =>
   have e1 : lowN E v j ++ [(E.getD (j * 1) []).getD (0 * 1) 0] = lowN E v (j + 1) := by rw [lowN, if_pos (by omega), r0]
   exact ⟨j + 1, by omega, ⟨_, rfl, rfl, by exact own_ints e1, int_eq (by omega), trivial⟩, by omega⟩
  case refine_1.refine_2 h3 h4 =>
   have e1 : lowN E v j = lowN E v (j + 1) := by rw [lowN, if_neg (by omega)]
   exact ⟨j + 1, by omega, ⟨_, rfl, rfl, by exact own_ints e1, int_eq (by omega), trivial⟩, by omega⟩
 ·have ej : j = E.length := by omega
  rw [ej] at hl ⊢
  generalize hLo : lowN E v E.length = Lo at *
  repeat' (first | (refine Two.mk ?_ ?_ <;> intro _) | refine goA ?_ | refine nxA ?_ | refine Done.ret (.one rA_ .nil) (.sh (.sh .nil)) ?_ rfl)
  all_goals try (exfalso; omega)
  refine WpA.loop_slots2 (fun j id => [(1, vGI v), (2, .own 2 (.pt true [.sl false 1 (ints w), .sl false 1 (LLs E)])), (5, .own id (.sl true 1 (ints (Lo ++ uppN E v j)))), (7, vGI j)]) (fun j => j ≤ E.length) (fun j => E.length - j) 0 _ (by omega) ⟨rfl, rfl, by exact own_ints (by simp [uppN]), rfl, trivial⟩ ?_
  intro j id s nx hj
  have hl2 := uppN_len E v j
  by_cases hlt : j < E.length
  ·have r0 : (E.getD (j * 1) []).getD (0 * 1) 0 = ea E j := by rw [Nat.mul_one]; rfl
   have r1 : (E.getD (j * 1) []).getD (1 * 1) 0 = eb E j := by rw [Nat.mul_one]; rfl
   have r2 : (E.getD (j * 1) []).length = 2 := by rw [Nat.mul_one]; exact h2 j hlt
   repeat' (first | (refine Two.mk ?_ ?_ <;> intro _) | refine goA ?_ | refine nxA ?_ | refine Done.ret (.one rA_ .nil) (.sh (.sh .nil)) ?_ rfl)
   all_goals try (exfalso; omega)
   case refine_1.refine_1 h3 h4 =>
    have e1 : Lo ++ uppN E v j ++ [(E.getD (j * 1) []).getD (1 * 1) 0] = Lo ++ uppN E v (j + 1) := by rw [uppN, if_pos (by omega), r1, List.append_assoc]
    exact ⟨j + 1, by omega, ⟨_, rfl, rfl, by exact own_ints e1, int_eq (by omega), trivial⟩, by omega⟩
   case refine_1.refine_2 h3 h4 =>
    have e1 : Lo ++ uppN E v j = Lo ++ uppN E v (j + 1) := by rw [uppN, if_neg (by omega)]
    exact ⟨j + 1, by omega, ⟨_, rfl, rfl, by exact own_ints e1, int_eq (by omega), trivial⟩, by omega⟩
  ·have ej : j = E.length := by omega
   have e1 : Lo ++ uppN E v j = near E v := by rw [ej, near, hLo]
   rw [e1]
   repeat' (first | (refine Two.mk ?_ ?_ <;> intro _) | refine goA ?_ | refine nxA ?_ | refine Done.ret (.one rA_ .nil) (.sh (.sh .nil)) ?_ rfl)
   all_goals try (exfalso; omega)
   all_goals rfl
end Go.Proofs.YtmgmpnhlehonmaaGreat
namespace Go.Proofs.YtmgmpnhlehonmaaGreat
theorem low_mem {E : List (List Int)} {v x : Int} : ∀ j, x ∈ lowN E v j ↔ ∃ i, i < j ∧ eb E i = v ∧ ea E i = x
 | 0 => by simp [lowN]
 | j + 1 => by
  rw [lowN]
  constructor
  ·intro h
   split at h
   ·rename_i e
    rcases List.mem_append.1 h with h | h
    ·obtain ⟨i, h1, h2⟩ := (low_mem j).1 h
     exact ⟨i, by omega, h2⟩
    ·exact ⟨j, by omega, e, (List.mem_singleton.1 h).symm⟩
   ·obtain ⟨i, h1, h2⟩ := (low_mem j).1 h
    exact ⟨i, by omega, h2⟩
  ·rintro ⟨i, h1, h2, h3⟩
   by_cases e : i = j
   ·subst e
    rw [if_pos h2, List.mem_append]
    exact .inr (by simp [h3])
   ·have := (low_mem (E := E) (v := v) (x := x) j).2 ⟨i, by omega, h2, h3⟩
    split
    ·exact List.mem_append_left _ this
    ·exact this
theorem upp_mem {E : List (List Int)} {v x : Int} : ∀ j, x ∈ uppN E v j ↔ ∃ i, i < j ∧ ea E i = v ∧ eb E i = x
 | 0 => by simp [uppN]
 | j + 1 => by
  rw [uppN]
  constructor
  ·intro h
   split at h
   ·rename_i e
    rcases List.mem_append.1 h with h | h
    ·obtain ⟨i, h1, h2⟩ := (upp_mem j).1 h
     exact ⟨i, by omega, h2⟩
    ·exact ⟨j, by omega, e, (List.mem_singleton.1 h).symm⟩
   ·obtain ⟨i, h1, h2⟩ := (upp_mem j).1 h
    exact ⟨i, by omega, h2⟩
  ·rintro ⟨i, h1, h2, h3⟩
   by_cases e : i = j
   ·subst e
    rw [if_pos h2, List.mem_append]
    exact .inr (by simp [h3])
   ·have := (upp_mem (E := E) (v := v) (x := x) j).2 ⟨i, by omega, h2, h3⟩
    split
    ·exact List.mem_append_left _ this
    ·exact this
theorem edge_mem {n : Nat} {E : List (List Int)} (hg : GoodE n E) {x y : Int} : [x, y] ∈ E ↔ ∃ j, j < E.length ∧ ea E j = x ∧ eb E j = y := by
 constructor
 ·intro h
  obtain ⟨j, hj, e, _⟩ := hg.mem h
  simp only [List.cons.injEq, and_true] at e
  exact ⟨j, hj, e.1.symm, e.2.symm⟩
 ·rintro ⟨j, hj, rfl, rfl⟩
  exact List.mem_of_getElem? ((hg j hj).edge hj)
theorem near_mem {n : Nat} {E : List (List Int)} (hg : GoodE n E) {v x : Int} : x ∈ near E v ↔ Adj E v x := by
 unfold near Adj
 rw [List.mem_append, low_mem, upp_mem, edge_mem hg, edge_mem hg]
 constructor
 ·rintro (⟨i, h1, h2, h3⟩ | ⟨i, h1, h2, h3⟩)
  ·exact .inr ⟨i, h1, h3, h2⟩
  ·exact .inl ⟨i, h1, h2, h3⟩
 ·rintro (⟨i, h1, h2, h3⟩ | ⟨i, h1, h2, h3⟩)
  ·exact .inr ⟨i, h1, h2, h3⟩
  ·exact .inl ⟨i, h1, h3, h2⟩
theorem lex_two {a b c d : Int} : lexC [a, b] [c, d] < 0 ↔ a < c ∨ (a = c ∧ b < d) := by
 simp only [lexC]
 split
 ·simp; omega
 ·split
  ·simp; omega
  ·split
   ·simp; omega
   ·split <;> simp <;> omega
theorem edges_lt {n : Nat} {E : List (List Int)} (hg : GoodE n E) : ∀ j, j < E.length → ∀ i, i < j → ea E i < ea E j ∨ (ea E i = ea E j ∧ eb E i < eb E j)
 | 0, _, i, hi => by omega
 | j + 1, hj, i, hi => by
  have h1 := (hg (j + 1) hj).2.2 (by omega)
  have e1 := (hg j (by omega)).edge (by omega)
  have e2 := (hg (j + 1) hj).edge hj
  rw [Nat.add_sub_cancel, List.getD_eq_getElem?_getD, List.getD_eq_getElem?_getD, e1, e2, Option.getD_some, Option.getD_some, lex_two] at h1
  by_cases e : i = j
  ·subst e; exact h1
  ·have := edges_lt hg j (by omega) i (by omega)
   omega
theorem low_sorted {n : Nat} {E : List (List Int)} (hg : GoodE n E) (v : Int) : ∀ j, j ≤ E.length → (lowN E v j).Pairwise (· < ·)
 | 0, _ => by simp [lowN]
 | j + 1, hj => by
  have ih := low_sorted hg v j (by omega)
  rw [lowN]
  split
  ·rename_i e
   rw [List.pairwise_append]
   refine ⟨ih, by simp, fun x hx y hy => ?_⟩
   obtain ⟨i, h1, h2, h3⟩ := (low_mem j).1 hx
   have := edges_lt hg j (by omega) i h1
   simp only [List.mem_singleton] at hy
   omega
  ·exact ih
theorem upp_sorted {n : Nat} {E : List (List Int)} (hg : GoodE n E) (v : Int) : ∀ j, j ≤ E.length → (uppN E v j).Pairwise (· < ·)
 | 0, _ => by simp [uppN]
 | j + 1, hj => by
  have ih := upp_sorted hg v j (by omega)
  rw [uppN]
  split
  ·rename_i e
   rw [List.pairwise_append]
   refine ⟨ih, by simp, fun x hx y hy => ?_⟩
   obtain ⟨i, h1, h2, h3⟩ := (upp_mem j).1 hx
   have := edges_lt hg j (by omega) i h1
   simp only [List.mem_singleton] at hy
   omega
  ·exact ih
theorem near_sorted {n : Nat} {E : List (List Int)} (hg : GoodE n E) (v : Int) : (near E v).Pairwise (· < ·) := by
 unfold near
 rw [List.pairwise_append]
 refine ⟨low_sorted hg v _ (Nat.le_refl _), upp_sorted hg v _ (Nat.le_refl _), fun x hx y hy => ?_⟩
 obtain ⟨i, h1, h2, h3⟩ := (low_mem _).1 hx
 obtain ⟨k, k1, k2, k3⟩ := (upp_mem _).1 hy
 have := (hg i h1).2.1
 have := (hg k k1).2.1
 omega
theorem near_nodup {n : Nat} {E : List (List Int)} (hg : GoodE n E) (v : Int) : (near E v).Nodup := (near_sorted hg v).imp fun h => by omega
theorem near_in {n : Nat} {E : List (List Int)} (hg : GoodE n E) {v x : Int} (h : x ∈ near E v) : 0 ≤ x ∧ x < n := (hg.adj ((near_mem hg).1 h)).2.1
theorem nodup_len : ∀ (n : Nat) (l : List Int), l.Nodup → (∀ x ∈ l, 0 ≤ x ∧ x < n) → l.length ≤ n
 | 0, l, _, h => by
  cases l with
  | nil => simp
  | cons x l => have := h x (by simp); omega
 | n + 1, l, hl, h => by
  have h1 := nodup_len n (l.erase n) (hl.erase _) (fun x hx => by
   have := (List.Nodup.mem_erase_iff hl).1 hx
   have h3 := h x this.2
   have h4 : x ≠ (n : Int) := this.1
   omega)
  have h2 : l.length ≤ (l.erase (n : Int)).length + 1 := by
   rw [List.length_erase]
   split <;> omega
  omega
theorem near_le {n : Nat} {E : List (List Int)} (hg : GoodE n E) (v : Int) : (near E v).length ≤ n := nodup_len n _ (near_nodup hg v) fun x hx => near_in hg hx
def tms (a b : Int) : Int × Bool := if a = 0 ∨ b = 0 then (0, true) else if 1000000000000 / (b.natAbs : Int) < (a.natAbs : Int) then (0, false) else (a * b, true)
def okS (p r f g : Int) : Bool := (tms r f).2 && (tms p g).2 && (tms p f).2 && decide (-1000000000000 ≤ (tms r f).1 - (tms p g).1 ∧ (tms r f).1 - (tms p g).1 ≤ 1000000000000)
theorem tms_val {a b : Int} (h : (tms a b).2 = true) : (tms a b).1 = a * b := by
 unfold tms at h ⊢
 split
 ·rename_i h0
  rcases h0 with rfl | rfl
  ·exact (Int.zero_mul _).symm
  ·exact (Int.mul_zero _).symm
 ·rename_i h0
  rw [if_neg h0] at h
  split
  ·rename_i h1; rw [if_pos h1] at h; cases h
  ·rfl
theorem tms_le {a b : Int} : ((tms a b).1).natAbs ≤ 1000000000000 := by
 unfold tms
 split
 ·exact Nat.zero_le _
 ·split
  ·exact Nat.zero_le _
  ·rename_i h0 h1
   have hb : 0 < (b.natAbs : Int) := by omega
   have h2 : (a.natAbs : Int) * (b.natAbs : Int) ≤ 1000000000000 := by
    have := Int.mul_le_mul_of_nonneg_right (show (a.natAbs : Int) ≤ 1000000000000 / (b.natAbs : Int) by omega) (Int.le_of_lt hb)
    exact Int.le_trans this (Int.ediv_mul_le _ (by omega))
   rw [Int.natAbs_mul]
   have h3 : ((a.natAbs * b.natAbs : Nat) : Int) ≤ ((1000000000000 : Nat) : Int) := by rw [Int.natCast_mul]; exact h2
   exact Int.ofNat_le.1 h3
theorem okS_parts {p r f g : Int} (h : okS p r f g = true) : (tms r f).1 = r * f ∧ (tms p g).1 = p * g ∧ (tms p f).1 = p * f := by
 simp only [okS, Bool.and_eq_true] at h
 exact ⟨tms_val h.1.1.1, tms_val h.1.1.2, tms_val h.1.2⟩
def kids (E : List (List Int)) (v u : Int) : List Int := (near E v).filter fun c => decide (c ≠ u)
def foldFG (FG : Int → Int × Int) : List Int → Int × Int → Int × Int
 | [], pr => pr
 | c :: l, pr => foldFG FG l (pr.1 * (FG c).1, pr.2 * (FG c).1 - pr.1 * (FG c).2)
def okFG (FG : Int → Int × Int) : List Int → Int × Int → Prop
 | [], _ => True
 | c :: l, pr => okS pr.1 pr.2 (FG c).1 (FG c).2 = true ∧ okFG FG l (pr.1 * (FG c).1, pr.2 * (FG c).1 - pr.1 * (FG c).2)
def fgN (w : List Int) (E : List (List Int)) : Nat → Int → Int → Int × Int
 | 0, _, _ => (0, 0)
 | k + 1, v, u => ((foldFG (fun c => fgN w E k c v) (kids E v u) (1, -(w.getD v.toNat 0))).2, (foldFG (fun c => fgN w E k c v) (kids E v u) (1, -(w.getD v.toNat 0))).1)
def FG (w : List Int) (E : List (List Int)) (v u : Int) : Int × Int := fgN w E w.length v u
def okV (w : List Int) (E : List (List Int)) (v u : Int) : Prop := okFG (fun c => FG w E c v) (kids E v u) (1, -(w.getD v.toNat 0))
theorem foldFG_congr {f g : Int → Int × Int} : ∀ (l : List Int) (pr : Int × Int), (∀ c ∈ l, f c = g c) → foldFG f l pr = foldFG g l pr
 | [], _, _ => rfl
 | c :: l, pr, h => by
  simp only [foldFG, h c (by simp)]
  exact foldFG_congr l _ fun c hc => h c (by simp [hc])
theorem NB.range {n : Nat} {E : List (List Int)} (hg : GoodE n E) : ∀ {l : List Int} {x : Int}, NB E (x :: l) → (0 ≤ x ∧ x < n) → ∀ y ∈ x :: l, 0 ≤ y ∧ y < n
 | [], x, _, hx, y, hy => by simp at hy; rw [hy]; exact hx
 | z :: l, x, h, hx, y, hy => by
  rcases List.mem_cons.1 hy with rfl | hy
  ·exact hx
  ·exact NB.range hg h.tail (hg.adj h.adj).2.1 y hy
theorem NB.len {w : List Int} {E : List (List Int)} (hg : IsGr w E) {l : List Int} {x : Int} (h : NB E (x :: l)) (hx : 0 ≤ x ∧ x < w.length) : l.length + 1 ≤ w.length := by
 have := nodup_len w.length (x :: l) (hg.forest _ h) (h.range hg.2.2.1 hx)
 simpa using this
theorem kid_nb {n : Nat} {E : List (List Int)} (hg : GoodE n E) {v c : Int} {t : List Int} (h : NB E (v :: t)) (hc : c ∈ kids E v (t.headD (-1))) : NB E (c :: v :: t) := by
 simp only [kids, List.mem_filter, decide_eq_true_eq] at hc
 refine h.cons ((near_mem hg).1 hc.1).symm fun z l' e => ?_
 subst e
 exact hc.2
theorem kid_in {n : Nat} {E : List (List Int)} (hg : GoodE n E) {v c u : Int} (hc : c ∈ kids E v u) : 0 ≤ c ∧ c < n := near_in hg (List.mem_filter.1 hc).1
theorem fg_stable {w : List Int} {E : List (List Int)} (hg : IsGr w E) : ∀ (k m : Nat) (v : Int) (t : List Int), NB E (v :: t) → (0 ≤ v ∧ v < w.length) → w.length < t.length + 1 + k → w.length < t.length + 1 + m → fgN w E k v (t.headD (-1)) = fgN w E m v (t.headD (-1))
 | 0, _, v, t, h, hv, hk, _ => by have := h.len hg hv; omega
 | k + 1, 0, v, t, h, hv, _, hm => by have := h.len hg hv; omega
 | k + 1, m + 1, v, t, h, hv, hk, hm => by
  simp only [fgN]
  have key : foldFG (fun c => fgN w E k c v) (kids E v (t.headD (-1))) (1, -(w.getD v.toNat 0)) = foldFG (fun c => fgN w E m c v) (kids E v (t.headD (-1))) (1, -(w.getD v.toNat 0)) :=
   foldFG_congr _ _ fun c hc => fg_stable hg k m c (v :: t) (kid_nb hg.2.2.1 h hc) (kid_in hg.2.2.1 hc) (by simp only [List.length_cons]; omega) (by simp only [List.length_cons]; omega)
  rw [key]
theorem FG_fix {w : List Int} {E : List (List Int)} (hg : IsGr w E) {v : Int} {t : List Int} (h : NB E (v :: t)) (hv : 0 ≤ v ∧ v < w.length) :
  FG w E v (t.headD (-1)) = ((foldFG (fun c => FG w E c v) (kids E v (t.headD (-1))) (1, -(w.getD v.toNat 0))).2, (foldFG (fun c => FG w E c v) (kids E v (t.headD (-1))) (1, -(w.getD v.toNat 0))).1) := by
 have h1 := fg_stable hg w.length (w.length + 1) v t h hv (by omega) (by omega)
 unfold FG
 rw [h1]
 rfl
def Bw (E : List (List Int)) (v : Int) (t : List Int) (x u : Int) : Prop := ∃ l p, NB E (x :: l) ∧ x :: l = p ++ v :: t ∧ u = l.headD (-1)
theorem Bw.self {E : List (List Int)} {v : Int} {t : List Int} (h : NB E (v :: t)) : Bw E v t v (t.headD (-1)) := ⟨t, [], h, rfl, rfl⟩
theorem Bw.kid {E : List (List Int)} {v c : Int} {t : List Int} {x u : Int} (h : Bw E c (v :: t) x u) : Bw E v t x u := by
 obtain ⟨l, p, h1, h2, h3⟩ := h
 exact ⟨l, p ++ [c], h1, by rw [h2]; simp, h3⟩
theorem Bw.cases {n : Nat} {E : List (List Int)} (hg : GoodE n E) {v : Int} {t : List Int} {x u : Int} (h : Bw E v t x u) : (x = v ∧ u = t.headD (-1)) ∨ ∃ c, c ∈ kids E v (t.headD (-1)) ∧ Bw E c (v :: t) x u := by
 obtain ⟨l, p, h1, h2, h3⟩ := h
 rcases List.eq_nil_or_concat p with rfl | ⟨p', c, rfl⟩
 ·obtain ⟨rfl, rfl⟩ := List.cons.inj h2
  exact .inl ⟨rfl, h3⟩
 ·have e : x :: l = p' ++ c :: v :: t := by rw [h2]; simp
  have h4 := NB.right p' (by rw [← e]; exact h1)
  refine .inr ⟨c, ?_, l, p', h1, e, h3⟩
  simp only [kids, List.mem_filter, decide_eq_true_eq]
  refine ⟨(near_mem hg).2 h4.adj.symm, ?_⟩
  have hc := (hg.adj h4.adj).1
  cases t with
  | nil => show c ≠ -1; omega
  | cons z t => exact h4.2.1
theorem Bw.cut {E : List (List Int)} {v : Int} {t : List Int} {x u : Int} (h : Bw E v t x u) : ∃ p, NB E (p ++ [v]) ∧ (p ++ [v]).head? = some x ∧ u = (p ++ v :: t).tail.headD (-1) := by
 obtain ⟨l, p, h1, h2, h3⟩ := h
 refine ⟨p, NB.left (p ++ [v]) (q := t) (by rw [List.append_assoc]; rw [h2] at h1; exact h1), ?_, ?_⟩
 ·cases p with
  | nil => obtain ⟨rfl, _⟩ := List.cons.inj h2; rfl
  | cons y p => obtain ⟨rfl, _⟩ := List.cons.inj h2; rfl
 ·rw [← h2]; exact h3
theorem Bw.uniq {E : List (List Int)} (hf : Forest E) {v : Int} {t : List Int} {x u u' : Int} (h : Bw E v t x u) (h' : Bw E v t x u') : u = u' := by
 obtain ⟨p, h1, h2, h3⟩ := h.cut
 obtain ⟨q, k1, k2, k3⟩ := h'.cut
 have := NB.unique hf h1 k1 (h2.trans k2.symm)
 rw [h3, k3, this]
theorem Bw.apart {E : List (List Int)} (hf : Forest E) {v c c' : Int} {t : List Int} {x u u' : Int} (h : Bw E c (v :: t) x u) (h' : Bw E c' (v :: t) x u') : c = c' := by
 obtain ⟨l, p, h1, h2, h3⟩ := h
 obtain ⟨l', p', k1, k2, k3⟩ := h'
 have e1 : NB E ((p ++ [c]) ++ [v]) := NB.left ((p ++ [c]) ++ [v]) (q := t) (by rw [h2] at h1; simpa using h1)
 have e2 : NB E ((p' ++ [c']) ++ [v]) := NB.left ((p' ++ [c']) ++ [v]) (q := t) (by rw [k2] at k1; simpa using k1)
 have a1 : ((p ++ [c]) ++ [v]).head? = some x := by cases p <;> (obtain ⟨rfl, _⟩ := List.cons.inj h2; rfl)
 have a2 : ((p' ++ [c']) ++ [v]).head? = some x := by cases p' <;> (obtain ⟨rfl, _⟩ := List.cons.inj k2; rfl)
 have := NB.unique hf e1 e2 (a1.trans a2.symm)
 exact (List.cons.inj (List.append_inj' this rfl).2).1
theorem Bw.nb {E : List (List Int)} {v : Int} {t : List Int} {x u : Int} (h : Bw E v t x u) : ∃ l, NB E (x :: l) ∧ u = l.headD (-1) := by
 obtain ⟨l, p, h1, h2, h3⟩ := h
 exact ⟨l, h1, h3⟩
theorem Bw.off {E : List (List Int)} (hf : Forest E) {v c : Int} {t : List Int} {x u : Int} (h : Bw E c (v :: t) x u) : x ≠ v ∧ x ∉ t := by
 obtain ⟨l, p, h1, h2, h3⟩ := h
 have hn := hf _ h1
 have hx : x ∈ p ++ [c] := by cases p <;> (obtain ⟨rfl, _⟩ := List.cons.inj h2; simp)
 rw [h2, show p ++ c :: v :: t = (p ++ [c]) ++ (v :: t) by simp, List.nodup_append] at hn
 exact ⟨fun e => hn.2.2 x hx v (by simp) e, fun e => hn.2.2 x hx x (by simp [e]) rfl⟩
theorem Bw.range {n : Nat} {E : List (List Int)} (hg : GoodE n E) {v : Int} {t : List Int} {x u : Int} (h : Bw E v t x u) (hv : 0 ≤ v ∧ v < n) : 0 ≤ x ∧ x < n := by
 rcases h.cases hg with ⟨rfl, _⟩ | ⟨c, hc, l, p, h1, h2, h3⟩
 ·exact hv
 ·cases p with
  | nil => obtain ⟨rfl, _⟩ := List.cons.inj h2; exact kid_in hg hc
  | cons y p =>
   cases l with
   | nil => have := congrArg List.length h2; simp at this
   | cons z l => exact (hg.adj h1.adj).1
end Go.Proofs.YtmgmpnhlehonmaaGreat
