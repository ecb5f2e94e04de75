/- Valences and Euler numbers of clusters: the reference. No condition. -/
import Derived.Test.YtmgmpnhlehonmaaGreatLGrM
import Derived.Test.YtmgmpnhlehonmaaGreatLGzA
import Derived.Test.YtmgmpnhlehonmaaGreatLPvS
import Derived.Test.YtmgmpnhlehonmaaGreatLGrD
import Derived.Test.YtmgmpnhlehonmaaGreatLPvX
import Derived.Test.YtmgmpnhlehonmaaGreatLZcH
set_option linter.unusedVariables false
set_option linter.unusedSimpArgs false
namespace Go.Proofs.YtmgmpnhlehonmaaGreat
set_option maxRecDepth 100000
set_option maxHeartbeats 20000000
open Go.Pv
open Go.ChangeShapes Go.WideShapes Go.ChangeAt Go.RowKit
attribute [local irreducible] RunU WpA Step CallG CallNG Done DoneN
instance fnOk158 : FnOk Tryz.prog 158 := ⟨_, Tryz.func158, rfl, by decide⟩
instance fnOk106 : FnOk Tryz.prog 106 := ⟨_, Tryz.func106, rfl, by decide⟩
def sbTo (X L : List Int) (w : Int) : Nat → List Int
 | 0 => X
 | k + 1 => sub1 (sbTo X L w k) (L.getD k 0).toNat w
theorem sbTo_len (X L : List Int) (w : Int) : ∀ k, (sbTo X L w k).length = X.length
 | 0 => rfl
 | k + 1 => by rw [sbTo, sub1_len, sbTo_len X L w k]
theorem sbTo_in {X L : List Int} {w B : Int} (hB : ∀ i, -B ≤ X.getD i 0 ∧ X.getD i 0 ≤ B) (hw : -100000 ≤ w ∧ w ≤ 100000) : ∀ (k i : Nat), -(B + k * 100000) ≤ (sbTo X L w k).getD i 0 ∧ (sbTo X L w k).getD i 0 ≤ B + k * 100000
 | 0, i => by have := hB i; simp only [sbTo]; omega
 | k + 1, i => by
  have ih := sbTo_in (L := L) hB hw k i
  rw [sbTo]
  by_cases hi : i < (sbTo X L w k).length
  ·rw [sub1_at _ _ _ _ hi]
   split <;> omega
  ·rw [List.getD_eq_getElem?_getD, List.getElem?_eq_none (by rw [sub1_len]; omega)]
   have := hB X.length
   rw [List.getD_eq_getElem?_getD, List.getElem?_eq_none (Nat.le_refl _)] at this
   simp only [Option.getD_none] at this ⊢
   omega
theorem prxAt_len (P S : List Int) (j : Nat) : (prxAt P S j).length ≤ 2 := by
 unfold prxAt
 split
 ·simp
 ·split <;> simp
theorem two_at {a b z : Int} (ha : 0 ≤ a ∧ a < z) (hb : 0 ≤ b ∧ b < z) : ∀ k, k < [a, b].length → 0 ≤ [a, b].getD k 0 ∧ [a, b].getD k 0 < z
 | 0, _ => ha
 | 1, _ => hb
 | k + 2, h => absurd h (by simp)
theorem one_at {b z : Int} (hb : 0 ≤ b ∧ b < z) : ∀ k, k < [b].length → 0 ≤ [b].getD k 0 ∧ [b].getD k 0 < z
 | 0, _ => hb
 | k + 1, h => absurd h (by simp)
theorem prxAt_mem {P S W : List Int} (h : Cl P S W) {j : Nat} (hj : j < P.length) : ∀ k, k < (prxAt P S j).length → 0 ≤ (prxAt P S j).getD k 0 ∧ (prxAt P S j).getD k 0 < (j : Int) := by
 by_cases h0 : j = 0
 ·subst h0
  intro k hk
  rw [show prxAt P S 0 = [] by simp [prxAt]] at hk
  exact absurd hk (by simp)
 ·have hp := h.p j (by omega) hj
  have hs := h.s j hj
  by_cases h2 : 0 ≤ S.getD j 0
  ·rw [show prxAt P S j = [S.getD j 0, P.getD j 0] by simp only [prxAt, if_neg h0, if_pos h2]; rfl]
   exact two_at (by omega) (by omega)
  ·rw [show prxAt P S j = [P.getD j 0] by simp only [prxAt, if_neg h0, if_neg h2]; rfl]
   exact one_at (by omega)
theorem sbTo_end {P S W : List Int} (h : Cl P S W) {j : Nat} (hj : j < P.length) : sbTo (exTo P S W j) (prxAt P S j) (W.getD j 0) (prxAt P S j).length = exTo P S W (j + 1) := by
 by_cases h0 : j = 0
 ·subst h0
  rw [show prxAt P S 0 = [] by simp [prxAt]]
  rw [exTo_first]
  show exTo P S W 0 = W
  exact exTo_zero P S W
 ·by_cases hs : 0 ≤ S.getD j 0
  ·have e := (exTo_two h (j := j) (by omega) hj hs).2
   rw [show prxAt P S j = [S.getD j 0, P.getD j 0] by simp only [prxAt, if_neg h0, if_pos hs]; rfl]
   exact e
  ·have e := exTo_one h (j := j) (by omega) hj hs
   rw [show prxAt P S j = [P.getD j 0] by simp only [prxAt, if_neg h0, if_neg hs]; rfl]
   exact e
theorem exTo_in {P S W : List Int} (h : Cl P S W) {j : Nat} (hj : j ≤ P.length) (i : Nat) : -10000000 ≤ (exTo P S W j).getD i 0 ∧ (exTo P S W j).getD i 0 ≤ 10000000 := by
 have hl := h.len
 have hW := h.lW
 by_cases hi : i < W.length
 ·have := exAt_bnd (P := P) (S := S) (W := W) (fun i hi => h.w i (by omega)) (i := i) hi j (by omega)
  rw [exTo_at _ _ _ _ hi]
  omega
 ·rw [List.getD_eq_getElem?_getD, List.getElem?_eq_none (by rw [exTo_len]; omega)]
  simp
theorem excessesOf_c (P S W : List Int) (h : Cl P S W) : CallA Tryz.prog 158 [aLL (prxTo P S P.length), aL W] [rL (exTo P S W W.length)] [] := by
 have hl := h.len
 have hW := h.lW
 have hC := clone_c W (by omega)
 have hML := prxTo_len P S P.length
 have hMa : ∀ j, j < P.length → (prxTo P S P.length).getD (j * 1) [] = prxAt P S j := fun j hj => by rw [Nat.mul_one]; exact prxTo_at P S hj
 have h0 := exTo_zero P S W
 have hin := fun j (hj : j ≤ P.length) i => exTo_in h hj i
 have hst := fun j (hj : j < P.length) => sbTo_end h hj
 have hmem := fun j (hj : j < P.length) => prxAt_mem h hj
 have hw := h.w
 have hel := exTo_len P S W
 have hpl := prxAt_len P S
 clear h
 generalize prxTo P S P.length = M at *
 refine cA_ _ Tryz.func158 rfl Tryz.ntmps158 sO_ ?_
 repeat' (first | (refine Two.mk ?_ ?_ <;> intro _) | (guard_target =~ CallN_; first | refine RunU.cons (sC_ (hC) (.sh .nil) (.sh wS_ .nil) rfl) ?_) | refine goA ?_ | (refine neA ?_; first | refine nxA ?_ | refine Done.ret (.one rA_ .nil) (.sh (.sh .nil)) ?_ rfl) | fail)
 clear hC
 refine WpA.loop_slots2 (fun j id => [(1, .c (.sl false 1 (ints W))), (5, .own id (.sl true 1 (ints (exTo P S W j)))), (12, .c (.sl false 1 (LLs M))), (13, vJ P.length), (14, vJ j)]) (fun j => j ≤ P.length) (fun j => P.length - j) 0 _ (by omega) ⟨rfl, by exact own_ints h0.symm, rfl, int_eq (by omega), rfl, trivial⟩ ?_
 intro j id s nx hj
 by_cases hlt : j < P.length
 ·have ha := hMa j hlt
  have hst := hst j hlt
  have hmem := hmem j hlt
  have hpl := hpl j
  have hin := hin j hj
  have hel := hel j
  have hw := hw (j * 1) (by omega)
  rw [show W.getD j 0 = W.getD (j * 1) 0 by rw [Nat.mul_one], ← ha] at hst
  rw [← ha] at hmem hpl
  generalize exTo P S W j = X at *
  clear ha h0 hMa
  repeat' (first | (refine Two.mk ?_ ?_ <;> intro _) | refine goA ?_ | (refine neA ?_; first | refine nxA ?_ | refine Done.ret (.one rA_ .nil) (.sh (.sh .nil)) ?_ rfl) | fail)
  all_goals try (exfalso; omega)
  refine WpA.loop_slots2 (fun k id => [(1, .c (.sl false 1 (ints W))), (5, .own id (.sl true 1 (ints (sbTo X (M.getD (j * 1) []) (W.getD (j * 1) 0) k)))), (6, vJ j), (12, .c (.sl false 1 (LLs M))), (13, vJ P.length), (14, vJ j), (19, .c (.sl false 1 (ints (M.getD (j * 1) [])))), (20, vJ (M.getD (j * 1) []).length), (21, vJ k)]) (fun k => k ≤ (M.getD (j * 1) []).length) (fun k => (M.getD (j * 1) []).length - k) 0 _ (by omega) ⟨rfl, xR_, rfl, rfl, rfl, rfl, rfl, rfl, rfl, trivial⟩ ?_
  intro k id s nx hk
  have hsl := sbTo_len X (M.getD (j * 1) []) (W.getD (j * 1) 0) k
  by_cases hkl : k < (M.getD (j * 1) []).length
  ·have m1 := hmem (k * 1) (by omega)
   have b1 := sbTo_in (L := M.getD (j * 1) []) hin hw k (((M.getD (j * 1) []).getD (k * 1) 0).toNat * 1)
   have e : (sbTo X (M.getD (j * 1) []) (W.getD (j * 1) 0) k).set (((M.getD (j * 1) []).getD (k * 1) 0).toNat * 1) ((sbTo X (M.getD (j * 1) []) (W.getD (j * 1) 0) k).getD (((M.getD (j * 1) []).getD (k * 1) 0).toNat * 1) 0 - W.getD (j * 1) 0) = sbTo X (M.getD (j * 1) []) (W.getD (j * 1) 0) (k + 1) := by
    simp only [Nat.mul_one]; rfl
   clear hst hmem hin
   generalize hG : sbTo X (M.getD (j * 1) []) (W.getD (j * 1) 0) k = Y at *
   repeat' (first | (refine Two.mk ?_ ?_ <;> intro _) | refine goA ?_ | (refine neA ?_; first | refine nxA ?_ | refine Done.ret (.one rA_ .nil) (.sh (.sh .nil)) ?_ rfl) | fail)
   all_goals try (exfalso; omega)
   all_goals exact ⟨k + 1, by omega, ⟨_, rfl, by exact own_ints e, rfl, rfl, rfl, rfl, rfl, rfl, int_eq (by omega), trivial⟩, by omega⟩
  ·obtain rfl : k = (M.getD (j * 1) []).length := by omega
   clear hmem hin
   repeat' (first | (refine Two.mk ?_ ?_ <;> intro _) | refine goA ?_ | (refine neA ?_; first | refine nxA ?_ | refine Done.ret (.one rA_ .nil) (.sh (.sh .nil)) ?_ rfl) | fail)
   all_goals try (exfalso; omega)
   all_goals exact ⟨j + 1, by omega, ⟨_, rfl, by exact own_ints hst, rfl, rfl, int_eq (by omega), trivial⟩, by omega⟩
 ·obtain rfl : j = P.length := by omega
  rw [hW]
  clear hin hst hmem hw hMa h0
  repeat' (first | (refine Two.mk ?_ ?_ <;> intro _) | refine goA ?_ | (refine neA ?_; first | refine nxA ?_ | refine Done.ret (.one rA_ .nil) (.sh (.sh .nil)) ?_ rfl) | fail)
  all_goals first | rfl | (exfalso; omega)
theorem implEx_c (P S W : List Int) (h : Cl P S W) : CallA Tryz.prog 106 [aCl P S W] [rL (exTo P S W W.length)] [] := by
 have hP := clPrx_c P S W h
 have hE := excessesOf_c P S W h
 clear h
 refine cA_ _ Tryz.func106 rfl Tryz.ntmps106 sO_ ?_
 repeat' (first | (refine Two.mk ?_ ?_ <;> intro _) | (guard_target =~ CallN_; first | refine RunU.cons (sC_ (hP) (.sh .nil) (.shAgg rfl gA_ .nil) rfl) ?_ | refine RunU.cons (sC_ (hE) (.sh (.sh .nil)) (.sh wS_ (.sh wS_ .nil)) rfl) ?_) | refine goA ?_ | (refine neA ?_; first | refine nxA ?_ | refine Done.ret (.one rA_ .nil) (.sh .nil) ?_ rfl) | fail)
 all_goals rfl
end Go.Proofs.YtmgmpnhlehonmaaGreat
namespace Go.Pv
section
variable {P : Program} {n : NN} {nid : Nat} {st : Nat → AV}
theorem step_store_LL {t x id off i : Nat} {xv : Operand} {v : Int} {T : TypeId} {A : List (List Int)} {ty pos aft g} [OneTy P T] (h : st t = .ptr x id [i] off) (hx : st x = .own id (.sl true 1 (LL A))) (hv : Lit st xv (.int .i64 v)) (hi : i < A.length) (hlt : off < (A.getD i []).length) :
  Step P n ⟨none, .store T (.tmp t) xv, ty, pos, aft, g⟩ nid st (t :: x :: rdOf xv) [(x, .own id (.sl true 1 (LL (A.set i ((A.getD i []).set off v)))))] := by
 have := step_store_ints (P := P) (n := n) (nid := nid) (T := T) (ty := ty) (pos := pos) (aft := aft) (g := g) (path := [i]) h hx (nav_LL hi) rfl hv hlt
 have e := own_put_LL (id := id) (L := A) (j := i) (m := (A.getD i []).set off v) hi rfl
 rw [List.nil_append] at e
 simp only [D.withKids] at this
 rwa [e] at this
end
end Go.Pv
namespace Go.Proofs.YtmgmpnhlehonmaaGreat
set_option maxRecDepth 100000
set_option maxHeartbeats 20000000
open Go.Pv
open Go.ChangeShapes Go.WideShapes Go.ChangeAt Go.RowKit
attribute [local irreducible] RunU WpA Step CallG CallNG Done DoneN
instance fnOk123 : FnOk Tryz.prog 123 := ⟨_, Tryz.func123, rfl, by decide⟩
def matF (n : Nat) (f : Nat → Nat → Int) : List (List Int) := (List.range n).map fun i => (List.range n).map fun k => f i k
theorem matF_len (n : Nat) (f : Nat → Nat → Int) : (matF n f).length = n := by simp [matF]
theorem matF_row {n i : Nat} (f : Nat → Nat → Int) (h : i < n) : (matF n f).getD i [] = (List.range n).map fun k => f i k := by simp [matF, List.getD, h]
theorem matF_rlen {n i : Nat} (f : Nat → Nat → Int) (h : i < n) : ((matF n f).getD i []).length = n := by rw [matF_row f h]; simp
theorem matF_congr {n : Nat} {f g : Nat → Nat → Int} (h : ∀ i k, i < n → k < n → f i k = g i k) : matF n f = matF n g := by
 unfold matF
 refine List.map_congr_left fun i hi => List.map_congr_left fun k hk => h i k (by simpa using hi) (by simpa using hk)
theorem matF_set {n a b : Nat} {f : Nat → Nat → Int} {v : Int} (ha : a < n) (hb : b < n) : (matF n f).set a (((matF n f).getD a []).set b v) = matF n fun i k => if i = a ∧ k = b then v else f i k := by
 rw [matF_row f ha]
 unfold matF
 refine List.ext_getElem (by simp) fun i h1 h2 => ?_
 simp only [List.length_set, List.length_map, List.length_range] at h1
 rw [List.getElem_set]
 simp only [List.getElem_map, List.getElem_range]
 by_cases e : a = i
 ·subst e
  rw [if_pos rfl]
  refine List.ext_getElem (by simp) fun k h3 h4 => ?_
  rw [List.getElem_set]
  simp only [List.getElem_map, List.getElem_range, true_and]
  by_cases e2 : b = k
  ·rw [if_pos e2, if_pos e2.symm]
  ·rw [if_neg e2, if_neg (Ne.symm e2)]
 ·rw [if_neg e]
  refine List.map_congr_left fun k _ => ?_
  rw [if_neg (fun h => e h.1.symm)]
theorem own_LLr {id : Nat} {ds : List D} {A : List (List Int)} {v : AV} (h : v = .own id (.sl true 1 ds)) (e : ds = LL A) : v = AV.own id (.sl true 1 (LL A)) := by rw [h, e]
theorem own_overL {id : Nat} {A A' : List (List Int)} {k : Nat} {m : List Int} (e : A.set k m = A') : AV.own id (.sl true 1 (D.over (LL A) k [.sl true 1 (ints m)])) = AV.own id (.sl true 1 (LL A')) := by
 rw [show D.over (LL A) k [.sl true 1 (ints m)] = LL (A.set k m) by simp only [D.over, LL, List.map_set], e]
theorem square_c (n : Nat) (hn : n ≤ 1000) : CallA Tryz.prog 123 [aI n] [rLL (matF n fun _ _ => 0)] [] := by
 have e0 : (matF n fun _ _ => 0) = List.replicate n (List.replicate n 0) := by simp [matF, List.map_const']
 rw [e0]
 have hset : ∀ j, j < n → (List.replicate j (List.replicate n (0 : Int)) ++ List.replicate (n - j) []).set j (List.replicate n 0) = List.replicate (j + 1) (List.replicate n 0) ++ List.replicate (n - (j + 1)) [] := fun j hj => by
  rw [List.set_append_right _ _ (by simp), List.length_replicate, Nat.sub_self, show n - j = (n - (j + 1)) + 1 by omega, List.replicate_succ, List.set_cons_zero, List.replicate_succ', List.append_assoc]
  rfl
 refine cA_ _ Tryz.func123 rfl Tryz.ntmps123 sO_ ?_
 repeat' (first | (refine Two.mk ?_ ?_ <;> intro _) | refine goA ?_ | refine nxA ?_ | refine Done.ret (.one rA_ .nil) (.sh .nil) ?_ rfl)
 refine WpA.loop_ids2 (fun j i3 _ => [(0, vGI n), (3, .own i3 (.sl true 1 (LL (List.replicate j (List.replicate n (0 : Int)) ++ List.replicate (n - j) [])))), (8, vGI n), (9, vGI j)]) (fun j => j ≤ n) (fun j => n - j) 0 _ 0 (by omega) ⟨rfl, by exact own_LLr rfl (by simp [LL, ints]), int_eq (by simp), rfl, trivial⟩ ?_
 intro j i3 _ s nx hj
 have hl : (List.replicate j (List.replicate n (0 : Int)) ++ List.replicate (n - j) []).length = n := by simp; omega
 by_cases hlt : j < n
 ·have e := hset j hlt
  rw [show ∀ A : List (List Int), A.set j (List.replicate n 0) = A.set (j * 1) (List.replicate ((n : Int)).toNat 0) from fun A => by rw [Nat.mul_one]; rfl] at e
  generalize List.replicate j (List.replicate n (0 : Int)) ++ List.replicate (n - j) [] = A at *
  repeat' (first | (refine Two.mk ?_ ?_ <;> intro _) | refine goA ?_ | refine nxA ?_ | refine Done.ret (.one rA_ .nil) (.sh .nil) ?_ rfl)
  all_goals try (exfalso; omega)
  exact ⟨j + 1, by omega, ⟨_, 0, rfl, by exact own_overL e, rfl, int_eq (by omega), trivial⟩, by omega⟩
 ·have ej : j = n := by omega
  subst ej
  have e : List.replicate j (List.replicate j (0 : Int)) ++ List.replicate (j - j) [] = List.replicate j (List.replicate j 0) := by simp
  rw [e] at *
  repeat' (first | (refine Two.mk ?_ ?_ <;> intro _) | refine goA ?_ | refine nxA ?_ | refine Done.ret (.one rA_ .nil) (.sh .nil) ?_ rfl)
  all_goals try (exfalso; omega)
  all_goals rfl
instance fnOk154 : FnOk Tryz.prog 154 := ⟨_, Tryz.func154, rfl, by decide⟩
instance fnOk104 : FnOk Tryz.prog 104 := ⟨_, Tryz.func104, rfl, by decide⟩
theorem matF_at {n i k : Nat} (f : Nat → Nat → Int) (hi : i < n) (hk : k < n) : ((matF n f).getD i []).getD k 0 = f i k := by
 rw [matF_row f hi]
 simp [List.getD_eq_getElem?_getD, hk]
def pmF (P S : List Int) (L : List Int) (i k : Nat) (a t : Nat) : Int := if a < i then pe P S a t else if a = i then (if t = i then 1 else if (t : Int) ∈ L.take k then -1 else 0) else 0
theorem prM_mat (P S : List Int) (n : Nat) : prM P S n n = matF n fun a t => pe P S a t := rfl
theorem pm_end {P S W : List Int} (h : Cl P S W) {i : Nat} (hi : i < P.length) : matF P.length (pmF P S (prxAt P S i) i (prxAt P S i).length) = matF P.length fun a t => if a < i + 1 then pe P S a t else 0 := by
 refine matF_congr fun a t ha ht => ?_
 unfold pmF
 by_cases h1 : a < i
 ·rw [if_pos h1, if_pos (by omega)]
 ·rw [if_neg h1]
  by_cases h2 : a = i
  ·subst h2
   rw [if_pos rfl, if_pos (Nat.lt_succ_self a), List.take_length, pe]
   by_cases h3 : t = a
   ·rw [if_pos h3, if_pos h3.symm]
   ·rw [if_neg h3, if_neg (Ne.symm h3)]
    have hiff : (t : Int) ∈ prxAt P S a ↔ P.getD a 0 = (t : Int) ∨ S.getD a 0 = (t : Int) := by
     by_cases h0 : a = 0
     ·subst h0
      have := h.p0
      rw [show prxAt P S 0 = [] by simp [prxAt]]
      constructor
      ·intro q; simp at q
      ·intro q; omega
     ·have hs := h.s a hi
      by_cases hs0 : 0 ≤ S.getD a 0
      ·rw [show prxAt P S a = [S.getD a 0, P.getD a 0] by simp only [prxAt, if_neg h0, if_pos hs0]; rfl]
       simp only [List.mem_cons, List.not_mem_nil, or_false]
       omega
      ·rw [show prxAt P S a = [P.getD a 0] by simp only [prxAt, if_neg h0, if_neg hs0]; rfl]
       simp only [List.mem_cons, List.not_mem_nil, or_false]
       omega
    by_cases h4 : (t : Int) ∈ prxAt P S a
    ·rw [if_pos h4, if_pos (hiff.1 h4)]
    ·rw [if_neg h4, if_neg (fun q => h4 (hiff.2 q))]
  ·rw [if_neg h2, if_neg (by omega)]
theorem pm_first {P S : List Int} {i : Nat} (L : List Int) (hi : i < P.length) : (matF P.length fun a t => if a < i then pe P S a t else 0).set i (((matF P.length fun a t => if a < i then pe P S a t else 0).getD i []).set i 1) = matF P.length (pmF P S L i 0) := by
 rw [matF_set hi hi]
 refine matF_congr fun a t ha ht => ?_
 unfold pmF
 by_cases h1 : a < i
 ·rw [if_neg (by omega), if_pos h1, if_pos h1]
 ·rw [if_neg h1, if_neg h1]
  by_cases h2 : a = i
  ·by_cases h3 : t = i
   ·rw [if_pos ⟨h2, h3⟩, if_pos h2, if_pos h3]
   ·rw [if_neg (fun q => h3 q.2), if_pos h2, if_neg h3]
    simp
  ·rw [if_neg (fun q => h2 q.1), if_neg h2]
theorem pm_next {P S L : List Int} {i k b : Nat} (hi : i < P.length) (hb : b < i) (hk : k < L.length) (hL : L.getD k 0 = (b : Int)) : (matF P.length (pmF P S L i k)).set i (((matF P.length (pmF P S L i k)).getD i []).set b (-1)) = matF P.length (pmF P S L i (k + 1)) := by
 rw [matF_set hi (by omega)]
 refine matF_congr fun a t ha ht => ?_
 have hLk : L.take (k + 1) = L.take k ++ [(b : Int)] := by
  rw [List.take_add_one, List.getElem?_eq_getElem hk, ← hL, List.getD_eq_getElem?_getD, List.getElem?_eq_getElem hk]
  rfl
 unfold pmF
 by_cases h1 : a < i
 ·rw [if_neg (by omega), if_pos h1, if_pos h1]
 ·rw [if_neg h1, if_neg h1]
  by_cases h2 : a = i
  ·rw [if_pos h2, if_pos h2, hLk]
   by_cases h3 : t = b
   ·rw [if_pos ⟨h2, h3⟩, if_neg (by omega), if_pos (by rw [h3]; simp)]
   ·rw [if_neg (fun q => h3 q.2)]
    by_cases h4 : t = i
    ·rw [if_pos h4, if_pos h4]
    ·rw [if_neg h4, if_neg h4]
     simp only [List.mem_append, List.mem_cons, List.not_mem_nil, or_false]
     by_cases h5 : (t : Int) ∈ L.take k
     ·rw [if_pos h5, if_pos (.inl h5)]
     ·rw [if_neg h5, if_neg (fun q => q.elim h5 (fun q => by omega))]
  ·rw [if_neg (fun q => h2 q.1), if_neg h2, if_neg h2]
theorem prox_c (P S W : List Int) (h : Cl P S W) : CallA Tryz.prog 154 [aCl P S W] [rLL (prM P S P.length P.length)] [] := by
 have hl := h.len
 have hP := clPrx_c P S W h
 have hSq := square_c P.length (by omega)
 have hML := prxTo_len P S P.length
 have hMa : ∀ j, j < P.length → (prxTo P S P.length).getD (j * 1) [] = prxAt P S j := fun j hj => by rw [Nat.mul_one]; exact prxTo_at P S hj
 have hend := fun i (hi : i < P.length) => pm_end h hi
 have hmem := fun j (hj : j < P.length) => prxAt_mem h hj
 have hpl := prxAt_len P S
 have hfull : (matF P.length fun a t => if a < P.length then pe P S a t else 0) = prM P S P.length P.length := by
  rw [prM_mat]
  exact matF_congr fun a t ha _ => if_pos ha
 have hzero : (matF P.length fun _ _ => 0) = matF P.length fun a t => if a < 0 then pe P S a t else 0 := matF_congr fun a t ha _ => (if_neg (by omega)).symm
 rw [hzero] at hSq
 clear h hzero
 generalize prxTo P S P.length = M at *
 refine cA_ _ Tryz.func154 rfl Tryz.ntmps154 sO_ ?_
 repeat' (first | (refine Two.mk ?_ ?_ <;> intro _) | (guard_target =~ CallN_; first | refine RunU.cons (sC_ (hP) (.sh .nil) (.shAgg rfl gA_ .nil) rfl) ?_ | refine RunU.cons (sC_ (hSq) (.sh .nil) (.sh wS_ .nil) rfl) ?_) | refine goA ?_ | (refine neA ?_; first | refine nxA ?_ | refine Done.ret (.one rA_ .nil) (.sh .nil) ?_ rfl) | fail)
 clear hP hSq
 refine WpA.loop_ids2 (fun j i3 i13 => [(3, .own i3 (.sl true 1 (LL (matF P.length fun a t => if a < j then pe P S a t else 0)))), (13, .own i13 (.sl true 1 (LL M))), (14, vJ P.length), (15, vJ j)]) (fun j => j ≤ P.length) (fun j => P.length - j) 0 _ _ (by omega) ⟨xR_, xR_, int_eq (by omega), rfl, trivial⟩ ?_
 intro j i3 i13 s nx hj
 by_cases hlt : j < P.length
 ·have ha := hMa j hlt
  have hend := hend j hlt
  have hmem := hmem j hlt
  have hpl := hpl j
  have e1 := pm_first (S := S) (prxAt P S j) hlt
  rw [← ha] at hmem e1 hend hpl
  have hl1 := matF_len P.length fun a t => if a < j then pe P S a t else 0
  have hr1 := matF_rlen (i := j * 1) (fun a t => if a < j then pe P S a t else 0) (show j * 1 < P.length by omega)
  have hst := fun k b (hb : b < j) (hk : k < (M.getD (j * 1) []).length) (hL : (M.getD (j * 1) []).getD k 0 = (b : Int)) => pm_next (P := P) (S := S) (i := j) hlt hb hk hL
  have hl2 := fun k => matF_len P.length (pmF P S (M.getD (j * 1) []) j k)
  have hr2 := fun k => matF_rlen (i := j * 1) (pmF P S (M.getD (j * 1) []) j k) (show j * 1 < P.length by omega)
  have e1' : (matF P.length fun a t => if a < j then pe P S a t else 0).set (j * 1) (((matF P.length fun a t => if a < j then pe P S a t else 0).getD (j * 1) []).set (j * 1) 1) = matF P.length (pmF P S (M.getD (j * 1) []) j 0) := by
   simp only [Nat.mul_one] at e1 ⊢; exact e1
  clear e1 hMa ha hfull
  generalize (matF P.length fun a t => if a < j then pe P S a t else 0) = A1 at *
  repeat' (first | (refine Two.mk ?_ ?_ <;> intro _) | refine goA ?_ | (refine neA ?_; first | refine nxA ?_ | refine Done.ret (.one rA_ .nil) (.sh .nil) ?_ rfl) | fail)
  all_goals try (exfalso; omega)
  refine WpA.loop_slots2 (fun k i3 => [(3, .own i3 (.sl true 1 (LL (matF P.length (pmF P S (M.getD (j * 1) []) j k))))), (4, vJ j), (13, .own i13 (.sl true 1 (LL M))), (14, vJ P.length), (15, vJ j), (26, .als 13 i13 ([] ++ [j * 1])), (27, vJ (M.getD (j * 1) []).length), (28, vJ k)]) (fun k => k ≤ (M.getD (j * 1) []).length) (fun k => (M.getD (j * 1) []).length - k) 0 _ (by omega) ⟨by exact own_put_LL (by omega) e1', rfl, rfl, rfl, rfl, rfl, rfl, rfl, trivial⟩ ?_
  intro k i3 s nx hk
  clear e1'
  by_cases hkl : k < (M.getD (j * 1) []).length
  ·have m1 := hmem (k * 1) (by omega)
   have hst := hst k ((M.getD (j * 1) []).getD (k * 1) 0).toNat (by omega) hkl (by simp only [Nat.mul_one] at m1 ⊢; omega)
   have hl2 := hl2 k
   have hr2 := hr2 k
   have e2 : (matF P.length (pmF P S (M.getD (j * 1) []) j k)).set (j * 1) (((matF P.length (pmF P S (M.getD (j * 1) []) j k)).getD (j * 1) []).set (((M.getD (j * 1) []).getD (k * 1) 0).toNat * 1) (-1)) = matF P.length (pmF P S (M.getD (j * 1) []) j (k + 1)) := by
    simp only [Nat.mul_one] at hst ⊢; exact hst
   clear hst hmem hend
   generalize matF P.length (pmF P S (M.getD (j * 1) []) j k) = B1 at *
   repeat' (first | (refine Two.mk ?_ ?_ <;> intro _) | refine goA ?_ | (refine neA ?_; first | refine nxA ?_ | refine Done.ret (.one rA_ .nil) (.sh .nil) ?_ rfl) | fail)
   all_goals try (exfalso; omega)
   all_goals exact ⟨k + 1, by omega, ⟨_, by exact own_put_LL (by omega) e2, rfl, rfl, rfl, rfl, rfl, rfl, int_eq (by omega), trivial⟩, by omega⟩
  ·obtain rfl : k = (M.getD (j * 1) []).length := by omega
   clear hmem hst hl2 hr2
   rw [hend]
   repeat' (first | (refine Two.mk ?_ ?_ <;> intro _) | refine goA ?_ | (refine neA ?_; first | refine nxA ?_ | refine Done.ret (.one rA_ .nil) (.sh .nil) ?_ rfl) | fail)
   all_goals try (exfalso; omega)
   all_goals exact ⟨j + 1, by omega, ⟨_, _, rfl, rfl, rfl, int_eq (by omega), trivial⟩, by omega⟩
 ·obtain rfl : j = P.length := by omega
  rw [hfull]
  clear hmem hend hMa
  repeat' (first | (refine Two.mk ?_ ?_ <;> intro _) | refine goA ?_ | (refine neA ?_; first | refine nxA ?_ | refine Done.ret (.one rA_ .nil) (.sh .nil) ?_ rfl) | fail)
  all_goals first | rfl | (exfalso; omega)
def emF (P S : List Int) (j a k : Nat) (i t : Nat) : Int := if i < a ∨ (i = a ∧ t < k) then mtTo P S (j + 1) i t else mtTo P S j i t
theorem em_first (P S : List Int) (n j : Nat) : matF n (emF P S j 0 0) = matF n (mtTo P S j) := matF_congr fun i t _ _ => by
 unfold emF
 rw [if_neg (by omega)]
theorem em_row (P S : List Int) (n j a : Nat) : matF n (emF P S j a n) = matF n (emF P S j (a + 1) 0) := matF_congr fun i t hi ht => by
 unfold emF
 by_cases h : i < a ∨ i = a
 ·rw [if_pos (by omega), if_pos (by omega)]
 ·rw [if_neg (by omega), if_neg (by omega)]
theorem em_end (P S : List Int) (n j : Nat) : matF n (emF P S j n 0) = matF n (mtTo P S (j + 1)) := matF_congr fun i t hi _ => by
 unfold emF
 rw [if_pos (.inl hi)]
theorem em_next {P S : List Int} {n j a k : Nat} (ha : a < n) (hk : k < n) : (matF n (emF P S j a k)).set a (((matF n (emF P S j a k)).getD a []).set k (((matF n (emF P S j a k)).getD a []).getD k 0 - pe P S j a * pe P S j k)) = matF n (emF P S j a (k + 1)) := by
 rw [matF_at _ ha hk, matF_set ha hk]
 refine matF_congr fun i t hi ht => ?_
 unfold emF
 by_cases h : i = a ∧ t = k
 ·obtain ⟨rfl, rfl⟩ := h
  rw [if_pos ⟨rfl, rfl⟩, if_neg (by omega), if_pos (by omega)]
  rfl
 ·rw [if_neg h]
  by_cases h2 : i < a ∨ i = a ∧ t < k
  ·rw [if_pos h2, if_pos (by omega)]
  ·rw [if_neg h2, if_neg (by omega)]
theorem mtM_mat (P S : List Int) (n : Nat) : mtM P S n n = matF n (mtTo P S n) := rfl
theorem em_in {P S : List Int} {n j : Nat} (a k : Nat) (hj : j < 24) (i t : Nat) (hi : i < n) (ht : t < n) : -24 ≤ ((matF n (emF P S j a k)).getD i []).getD t 0 ∧ ((matF n (emF P S j a k)).getD i []).getD t 0 ≤ 24 := by
 rw [matF_at _ hi ht]
 have h1 := mtTo_in P S i t j
 have h2 := mtTo_in P S i t (j + 1)
 unfold emF
 split <;> omega
theorem excMat_c (P S W : List Int) (h : Cl P S W) : CallA Tryz.prog 104 [aCl P S W] [rLL (mtM P S P.length P.length)] [] := by
 have hl := h.len
 have hP := prox_c P S W h
 have hSq := square_c P.length (by omega)
 have hML := prM_len P S P.length P.length
 have hrl : ∀ i, i < P.length → ((prM P S P.length P.length).getD i []).length = P.length := fun i hi => by rw [prM_at _ _ _ hi, prR_len]
 have hat : ∀ i k, i < P.length → k < P.length → ((prM P S P.length P.length).getD i []).getD k 0 = pe P S i k := fun i k hi hk => by rw [prM_at _ _ _ hi, prR_at _ _ _ hk]
 have hzero : (matF P.length fun _ _ => 0) = matF P.length (mtTo P S 0) := rfl
 rw [hzero, ← hML] at hSq
 rw [mtM_mat]
 clear h hzero
 generalize prM P S P.length P.length = M at *
 refine cA_ _ Tryz.func104 rfl Tryz.ntmps104 sO_ ?_
 repeat' (first | (refine Two.mk ?_ ?_ <;> intro _) | (guard_target =~ CallN_; first | refine RunU.cons (sC_ (hP) (.sh .nil) (.shAgg rfl gA_ .nil) rfl) ?_ | refine RunU.cons (sC_ (hSq) (.sh .nil) (.sh wS_ .nil) rfl) ?_) | refine goA ?_ | (refine neA ?_; first | refine nxA ?_ | refine Done.ret (.one rA_ .nil) (.sh .nil) ?_ rfl) | fail)
 clear hP hSq
 rw [hML]
 refine WpA.loop_ids2 (fun j i3 i4 => [(3, .own i3 (.sl true 1 (LL M))), (4, .own i4 (.sl true 1 (LL (matF P.length (mtTo P S j))))), (16, .als 3 i3 []), (17, vJ P.length), (18, vJ j)]) (fun j => j ≤ P.length) (fun j => P.length - j) 0 _ _ (by omega) ⟨xR_, xR_, xR_, rfl, rfl, trivial⟩ ?_
 intro j i3 i4 s nx hj
 by_cases hlt : j < P.length
 ·have r1 := hrl (j * 1) (by omega)
  repeat' (first | (refine Two.mk ?_ ?_ <;> intro _) | refine goA ?_ | (refine neA ?_; first | refine nxA ?_ | refine Done.ret (.one rA_ .nil) (.sh .nil) ?_ rfl) | fail)
  all_goals try (exfalso; omega)
  refine WpA.loop_slots2 (fun a i4 => [(3, .own i3 (.sl true 1 (LL M))), (4, .own i4 (.sl true 1 (LL (matF P.length (emF P S j a 0))))), (6, .als 3 i3 ([] ++ [j * 1])), (16, .als 3 i3 []), (17, vJ P.length), (18, vJ j), (22, .als 3 i3 ([] ++ [j * 1])), (23, vJ P.length), (24, vJ a)]) (fun a => a ≤ P.length) (fun a => P.length - a) 0 _ (by omega) ⟨rfl, by exact own_LL (em_first P S _ j).symm, rfl, rfl, rfl, rfl, rfl, int_eq (by omega), rfl, trivial⟩ ?_
  intro a i4 s nx ha
  by_cases hal : a < P.length
  ·repeat' (first | (refine Two.mk ?_ ?_ <;> intro _) | refine goA ?_ | (refine neA ?_; first | refine nxA ?_ | refine Done.ret (.one rA_ .nil) (.sh .nil) ?_ rfl) | fail)
   all_goals try (exfalso; omega)
   refine WpA.loop_slots2 (fun k i4 => [(3, .own i3 (.sl true 1 (LL M))), (4, .own i4 (.sl true 1 (LL (matF P.length (emF P S j a k))))), (6, .als 3 i3 ([] ++ [j * 1])), (7, vJ a), (8, vJ ((M.getD (j * 1) []).getD (a * 1) 0)), (16, .als 3 i3 []), (17, vJ P.length), (18, vJ j), (22, .als 3 i3 ([] ++ [j * 1])), (23, vJ P.length), (24, vJ a), (29, .als 3 i3 ([] ++ [j * 1])), (30, vJ P.length), (31, vJ k)]) (fun k => k ≤ P.length) (fun k => P.length - k) 0 _ (by omega) ⟨rfl, xR_, rfl, rfl, rfl, rfl, rfl, rfl, rfl, rfl, rfl, rfl, int_eq (by omega), rfl, trivial⟩ ?_
   intro k i4 s nx hk
   have hl2 := matF_len P.length (emF P S j a k)
   have hr2 := matF_rlen (i := a * 1) (emF P S j a k) (show a * 1 < P.length by omega)
   by_cases hkl : k < P.length
   ·have a1 := hat (j * 1) (a * 1) (by omega) (by omega)
    have a2 := hat (j * 1) (k * 1) (by omega) (by omega)
    have m1 := pe_mul P S (j * 1) (a * 1) (k * 1)
    have b1 := em_in (P := P) (S := S) a k (show j < 24 by omega) (a * 1) (k * 1) (n := P.length) (by omega) (by omega)
    have e := em_next (P := P) (S := S) (j := j) hal hkl
    rw [show pe P S j a * pe P S j k = pe P S (j * 1) (a * 1) * pe P S (j * 1) (k * 1) by simp only [Nat.mul_one]] at e
    rw [← a1, ← a2] at e m1
    have e2 : (matF P.length (emF P S j a k)).set (a * 1) (((matF P.length (emF P S j a k)).getD (a * 1) []).set (k * 1) (((matF P.length (emF P S j a k)).getD (a * 1) []).getD (k * 1) 0 - (M.getD (j * 1) []).getD (a * 1) 0 * (M.getD (j * 1) []).getD (k * 1) 0)) = matF P.length (emF P S j a (k + 1)) := by
     simp only [Nat.mul_one] at e ⊢; exact e
    clear e a1 a2 hat hrl
    generalize matF P.length (emF P S j a k) = B1 at *
    repeat' (first | (refine Two.mk ?_ ?_ <;> intro _) | refine goA ?_ | (refine neA ?_; first | refine nxA ?_ | refine Done.ret (.one rA_ .nil) (.sh .nil) ?_ rfl) | fail)
    all_goals try (exfalso; omega)
    all_goals exact ⟨k + 1, by omega, ⟨_, rfl, by exact own_put_LL (by omega) e2, rfl, rfl, rfl, rfl, rfl, rfl, rfl, rfl, rfl, rfl, rfl, int_eq (by omega), trivial⟩, by omega⟩
   ·obtain rfl : k = P.length := by omega
    have er := em_row P S P.length j a
    clear hat hrl
    repeat' (first | (refine Two.mk ?_ ?_ <;> intro _) | refine goA ?_ | (refine neA ?_; first | refine nxA ?_ | refine Done.ret (.one rA_ .nil) (.sh .nil) ?_ rfl) | fail)
    all_goals try (exfalso; omega)
    all_goals exact ⟨a + 1, by omega, ⟨_, rfl, by exact own_LL er, rfl, rfl, rfl, rfl, rfl, rfl, int_eq (by omega), trivial⟩, by omega⟩
  ·obtain rfl : a = P.length := by omega
   have er := em_end P S P.length j
   clear hat hrl
   repeat' (first | (refine Two.mk ?_ ?_ <;> intro _) | refine goA ?_ | (refine neA ?_; first | refine nxA ?_ | refine Done.ret (.one rA_ .nil) (.sh .nil) ?_ rfl) | fail)
   all_goals try (exfalso; omega)
   all_goals exact ⟨j + 1, by omega, ⟨_, _, rfl, by exact own_LL er, rfl, rfl, int_eq (by omega), trivial⟩, by omega⟩
 ·obtain rfl : j = P.length := by omega
  clear hat hrl
  repeat' (first | (refine Two.mk ?_ ?_ <;> intro _) | refine goA ?_ | (refine neA ?_; first | refine nxA ?_ | refine Done.ret (.one rA_ .nil) (.sh .nil) ?_ rfl) | fail)
  all_goals first | rfl | (exfalso; omega)
instance fnOk99 : FnOk Tryz.prog 99 := ⟨_, Tryz.func99, rfl, by decide⟩
theorem graphOf_c (P S W : List Int) (h : Cl P S W) : CallA Tryz.prog 99 [aCl P S W] [.agg [.sl true 1 (ints (wtTo P S P.length P.length)), .sl true 1 (LL (edTo P S P.length P.length))]] [] := by
 have hl := h.len
 have hM := excMat_c P S W h
 have hML := mtM_len P S P.length P.length
 have hrl : ∀ i, i < P.length → ((mtM P S P.length P.length).getD i []).length = P.length := fun i hi => by rw [mtM_at _ _ _ hi, mtR_len]
 have hat : ∀ i k, i < P.length → k < P.length → ((mtM P S P.length P.length).getD i []).getD k 0 = mtTo P S P.length i k := fun i k hi hk => by rw [mtM_at _ _ _ hi, mtR_at _ _ _ _ hk]
 generalize mtM P S P.length P.length = M at *
 refine cA_ _ Tryz.func99 rfl Tryz.ntmps99 sO_ ?_
 repeat' (first | (refine Two.mk ?_ ?_ <;> intro _) | (guard_target =~ CallN_; first | refine RunU.cons (sC_ (hM) (.sh .nil) (.shAgg rfl gA_ .nil) rfl) ?_) | refine goA ?_ | (refine neA ?_; first | refine nxA ?_ | refine Done.ret (.cell inferInstance rfl rfl .nil) (.sh .nil) ?_ rfl) | fail)
 clear hM h
 refine WpA.loop_ids2 (fun i i3 i11 => [(2, .own 2 (.pt true [.sl true 1 [], .sl true 1 []])), (3, .own i3 (dGr (wtTo P S P.length i) (edTo P S P.length i))), (11, .own i11 (.sl true 1 (LL M))), (12, vJ P.length), (13, vJ i)]) (fun i => i ≤ P.length) (fun i => P.length - i) 0 _ _ (by omega) ⟨rfl, xR_, xR_, int_eq (by omega), rfl, trivial⟩ ?_
 intro i i3 i11 s nx hi
 have hwl := wtTo_len P S P.length i
 have hel := edTo_len P S P.length i
 have hin : i * P.length ≤ 24 * 24 := Nat.mul_le_mul (by omega) hl.2
 by_cases hlt : i < P.length
 ·have r1 := hrl (i * 1) (by omega)
  have a1 := hat (i * 1) (i * 1) (by omega) (by omega)
  have hw := wtTo_step P S P.length i
  have e1 : wtTo P S P.length i ++ [(M.getD (i * 1) []).getD (i * 1) 0] = wtTo P S P.length (i + 1) := by rw [hw, a1]; simp only [Nat.mul_one]
  repeat' (first | (refine Two.mk ?_ ?_ <;> intro _) | refine goA ?_ | (refine neA ?_; first | refine nxA ?_ | refine Done.ret (.cell inferInstance rfl rfl .nil) (.sh .nil) ?_ rfl) | fail)
  all_goals try (exfalso; omega)
  refine WpA.loop_slots2 (fun m i3 => [(2, .own 2 (.pt true [.sl true 1 [], .sl true 1 []])), (3, .own i3 (dGr (wtTo P S P.length (i + 1)) (edTo P S P.length i ++ rowE P S P.length i m))), (4, vJ i), (5, .als 11 i11 ([] ++ [i * 1])), (6, vJ (i + 1 + m : Nat)), (11, .own i11 (.sl true 1 (LL M))), (12, vJ P.length), (13, vJ i)]) (fun m => m ≤ P.length - 1 - i) (fun m => P.length - m) 0 _ (by omega) ⟨rfl, by exact own_gr2 e1 (by simp [rowE]), rfl, rfl, int_eq (by simp), rfl, rfl, rfl, trivial⟩ ?_
  clear a1 e1 hw
  intro m i3 s nx hm
  have hrw := rowE_len P S P.length i m
  by_cases hml : i + 1 + m < P.length
  ·have a1 := hat (i * 1) ((i + 1 + m) * 1) (by omega) (by omega)
   have hr : rowE P S P.length i (m + 1) = rowE P S P.length i m ++ if mtTo P S P.length i (i + 1 + m) = 1 then [[(i : Int), ((i + 1 + m : Nat) : Int)]] else [] := rfl
   have hEl : (edTo P S P.length i ++ rowE P S P.length i m).length ≤ 1000 := by rw [List.length_append]; omega
   have a2 : mtTo P S P.length i (i + 1 + m) = (M.getD (i * 1) []).getD ((i + 1 + m) * 1) 0 := by rw [a1]; simp only [Nat.mul_one]
   rw [a2] at hr
   by_cases h1 : (M.getD (i * 1) []).getD ((i + 1 + m) * 1) 0 = 1
   ·rw [if_pos h1] at hr
    have e2 : (edTo P S P.length i ++ rowE P S P.length i m) ++ [[(i : Int), ((i + 1 + m : Nat) : Int)]] = edTo P S P.length i ++ rowE P S P.length i (m + 1) := by rw [hr, List.append_assoc]
    generalize edTo P S P.length i ++ rowE P S P.length i m = EE at *
    clear hrl hat a1 a2
    repeat' (first | (refine Two.mk ?_ ?_ <;> intro _) | refine goA ?_ | (refine neA ?_; first | refine nxA ?_ | refine Done.ret (.cell inferInstance rfl rfl .nil) (.sh .nil) ?_ rfl) | fail)
    all_goals try (exfalso; omega)
    all_goals exact ⟨m + 1, by omega, ⟨_, rfl, by exact own_gr2 rfl e2, rfl, rfl, int_eq (by omega), rfl, rfl, rfl, trivial⟩, by omega⟩
   ·rw [if_neg h1, List.append_nil] at hr
    rw [← hr]
    clear hrl hat a1 a2
    repeat' (first | (refine Two.mk ?_ ?_ <;> intro _) | refine goA ?_ | (refine neA ?_; first | refine nxA ?_ | refine Done.ret (.cell inferInstance rfl rfl .nil) (.sh .nil) ?_ rfl) | fail)
    all_goals try (exfalso; omega)
    all_goals exact ⟨m + 1, by omega, ⟨_, rfl, by exact own_gr2 rfl (by rw [hr]), rfl, rfl, int_eq (by omega), rfl, rfl, rfl, trivial⟩, by omega⟩
  ·obtain rfl : m = P.length - 1 - i := by omega
   have e3 : edTo P S P.length i ++ rowE P S P.length i (P.length - 1 - i) = edTo P S P.length (i + 1) := rfl
   clear hrl hat
   repeat' (first | (refine Two.mk ?_ ?_ <;> intro _) | refine goA ?_ | (refine neA ?_; first | refine nxA ?_ | refine Done.ret (.cell inferInstance rfl rfl .nil) (.sh .nil) ?_ rfl) | fail)
   all_goals try (exfalso; omega)
   all_goals exact ⟨i + 1, by omega, ⟨_, _, rfl, by exact own_gr2 rfl e3, rfl, rfl, int_eq (by omega), trivial⟩, by omega⟩
 ·obtain rfl : i = P.length := by omega
  clear hrl hat
  repeat' (first | (refine Two.mk ?_ ?_ <;> intro _) | refine goA ?_ | (refine neA ?_; first | refine nxA ?_ | refine Done.ret (.cell inferInstance rfl rfl .nil) (.sh .nil) ?_ rfl) | fail)
  all_goals first | rfl | (exfalso; omega)
instance fnOk152 : FnOk Tryz.prog 152 := ⟨_, Tryz.func152, rfl, by decide⟩
instance fnOk103 : FnOk Tryz.prog 103 := ⟨_, Tryz.func103, rfl, by decide⟩
def vaTo (E : List (List Int)) (n : Nat) : List Int := (List.range n).map fun v : Nat => ((near E v).length : Int)
theorem vaTo_len (E : List (List Int)) (n : Nat) : (vaTo E n).length = n := by simp [vaTo]
theorem vaTo_step (E : List (List Int)) (j : Nat) : vaTo E (j + 1) = vaTo E j ++ [((near E j).length : Int)] := by simp [vaTo, List.range_succ]
theorem near_few (E : List (List Int)) (v : Int) : (near E v).length ≤ 2 * E.length := by
 have h1 := lowN_len E v E.length
 have h2 := uppN_len E v E.length
 unfold near
 rw [List.length_append]
 omega
theorem specVa_c (P S W : List Int) (h : Cl P S W) : CallA Tryz.prog 152 [aCl P S W] [rL (vaTo (edTo P S P.length P.length) P.length)] [] := by
 have hl := h.len
 have hG := specGraph_c P S W h
 have hwl := wtTo_len P S P.length P.length
 have hgood := edTo_good P S P.length
 have hel := edTo_len P S P.length P.length
 have hin : P.length * P.length ≤ 24 * 24 := Nat.mul_le_mul hl.2 hl.2
 clear h
 generalize wtTo P S P.length P.length = w at *
 generalize edTo P S P.length P.length = E at *
 have hNr := fun v => near_c w E v (by omega) (fun j hj => (hgood j hj).1)
 refine cA_ _ Tryz.func152 rfl Tryz.ntmps152 sO_ ?_
 repeat' (first | (refine Two.mk ?_ ?_ <;> intro _) | (guard_target =~ CallN_; first | refine RunU.cons (sC_ (hG) (.sh .nil) (.shAgg rfl gA_ .nil) rfl) ?_) | refine goA ?_ | (refine neA ?_; first | refine nxA ?_ | refine Done.ret (.one rA_ .nil) (.sh .nil) ?_ rfl) | fail)
 clear hG hgood
 refine WpA.loop_ids2 (fun j i3 i4 => [(3, .own i3 (dGr w E)), (4, .own i4 (.sl true 1 (ints (vaTo E j)))), (5, vJ j)]) (fun j => j ≤ P.length) (fun j => P.length - j) 0 _ _ (by omega) ⟨xR_, by exact own_ints (l := []) rfl, rfl, trivial⟩ ?_
 intro j i3 i4 s nx hj
 have hvl := vaTo_len E j
 have hst := vaTo_step E j
 have hnf := near_few E j
 by_cases hlt : j < P.length
 ·have hN := hNr j
  clear hNr
  repeat' (first | (refine Two.mk ?_ ?_ <;> intro _) | (guard_target =~ CallN_; first | refine RunU.cons (sC_ (hN) (.sh (.sh .nil)) (.shAgg rfl gA_ (.sh wS_ .nil)) rfl) ?_) | refine goA ?_ | (refine neA ?_; first | refine nxA ?_ | refine Done.ret (.one rA_ .nil) (.sh .nil) ?_ rfl) | fail)
  all_goals try (exfalso; omega)
  all_goals exact ⟨j + 1, by omega, ⟨_, _, rfl, by exact own_ints hst.symm, int_eq (by omega), trivial⟩, by omega⟩
 ·obtain rfl : j = P.length := by omega
  clear hNr
  repeat' (first | (refine Two.mk ?_ ?_ <;> intro _) | refine goA ?_ | (refine neA ?_; first | refine nxA ?_ | refine Done.ret (.one rA_ .nil) (.sh .nil) ?_ rfl) | fail)
  all_goals first | rfl | (exfalso; omega)
end Go.Proofs.YtmgmpnhlehonmaaGreat
