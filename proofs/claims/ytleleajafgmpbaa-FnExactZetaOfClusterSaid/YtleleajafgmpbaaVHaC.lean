/- Proximity and intersection matrices of clusters: the program. No condition. -/
import Derived.Test.YtleleajafgmpbaaVHaB
import Derived.Test.YtleleajafgmpbaaVPvS
import Derived.Test.YtleleajafgmpbaaVZcG
namespace Go.Proofs.Ytleleajafgmpbaa
set_option maxHeartbeats 20000000
set_option linter.unusedVariables false
set_option linter.unusedSimpArgs false
open Go.Pv
open Go.ChangeShapes Go.WideShapes Go.ChangeAt Go.RowKit
attribute [local irreducible] RunU WpA Step CallG CallNG Done DoneN
end Go.Proofs.Ytleleajafgmpbaa
namespace Go.Pv
set_option linter.unusedVariables false
set_option linter.unusedSimpArgs false
section
variable {P : Program} {n : NN} {nid : Nat} {st : Nat → AV}
theorem step_store_LL {t x id off i : Nat} {xv : Operand} {v : Int} {T : TypeId} {A : List (List Int)} {ty pos aft g} [OneTy P T] (h : st t = .ptr x id [i] off) (hx : st x = .own id (.sl true 1 (LL A))) (hv : Lit st xv (.int .i64 v)) (hi : i < A.length) (hlt : off < (A.getD i []).length) :
    Step P n ⟨none, .store T (.tmp t) xv, ty, pos, aft, g⟩ nid st (t :: x :: rdOf xv) [(x, .own id (.sl true 1 (LL (A.set i ((A.getD i []).set off v)))))] := by
  have := step_store_ints (P := P) (n := n) (nid := nid) (T := T) (ty := ty) (pos := pos) (aft := aft) (g := g) (path := [i]) h hx (nav_LL hi) rfl hv hlt
  have e := own_put_LL (id := id) (L := A) (j := i) (m := (A.getD i []).set off v) hi rfl
  rw [List.nil_append] at e
  simp only [D.withKids] at this
  rwa [e] at this
end
end Go.Pv
namespace Go.Proofs.Ytleleajafgmpbaa
set_option maxHeartbeats 20000000
set_option linter.unusedVariables false
set_option linter.unusedSimpArgs false
open Go.Pv
open Go.ChangeShapes Go.WideShapes Go.ChangeAt Go.RowKit
attribute [local irreducible] RunU WpA Step CallG CallNG Done DoneN
instance fnOk90 : FnOk Try.prog 90 := ⟨_, Try.func90, rfl, by decide⟩
def matF (n : Nat) (f : Nat → Nat → Int) : List (List Int) := (List.range n).map fun i => (List.range n).map fun k => f i k
theorem matF_len (n : Nat) (f : Nat → Nat → Int) : (matF n f).length = n := by simp [matF]
theorem matF_row {n i : Nat} (f : Nat → Nat → Int) (h : i < n) : (matF n f).getD i [] = (List.range n).map fun k => f i k := by simp [matF, List.getD, h]
theorem matF_rlen {n i : Nat} (f : Nat → Nat → Int) (h : i < n) : ((matF n f).getD i []).length = n := by rw [matF_row f h]; simp
theorem matF_congr {n : Nat} {f g : Nat → Nat → Int} (h : ∀ i k, i < n → k < n → f i k = g i k) : matF n f = matF n g := by
  unfold matF
  refine List.map_congr_left fun i hi => List.map_congr_left fun k hk => h i k (by simpa using hi) (by simpa using hk)
theorem matF_set {n a b : Nat} {f : Nat → Nat → Int} {v : Int} (ha : a < n) (hb : b < n) : (matF n f).set a (((matF n f).getD a []).set b v) = matF n fun i k => if i = a ∧ k = b then v else f i k := by
  rw [matF_row f ha]
  unfold matF
  refine List.ext_getElem (by simp) fun i h1 h2 => ?_
  simp only [List.length_set, List.length_map, List.length_range] at h1
  rw [List.getElem_set]
  simp only [List.getElem_map, List.getElem_range]
  by_cases e : a = i
  · subst e
    rw [if_pos rfl]
    refine List.ext_getElem (by simp) fun k h3 h4 => ?_
    rw [List.getElem_set]
    simp only [List.getElem_map, List.getElem_range, true_and]
    by_cases e2 : b = k
    · rw [if_pos e2, if_pos e2.symm]
    · rw [if_neg e2, if_neg (Ne.symm e2)]
  · rw [if_neg e]
    refine List.map_congr_left fun k _ => ?_
    rw [if_neg (fun h => e h.1.symm)]
theorem own_LLr {id : Nat} {ds : List D} {A : List (List Int)} {v : AV} (h : v = .own id (.sl true 1 ds)) (e : ds = LL A) : v = AV.own id (.sl true 1 (LL A)) := by rw [h, e]
theorem own_overL {id : Nat} {A A' : List (List Int)} {k : Nat} {m : List Int} (e : A.set k m = A') : AV.own id (.sl true 1 (D.over (LL A) k [.sl true 1 (ints m)])) = AV.own id (.sl true 1 (LL A')) := by
  rw [show D.over (LL A) k [.sl true 1 (ints m)] = LL (A.set k m) by simp only [D.over, LL, List.map_set], e]
theorem square_c (n : Nat) (hn : n ≤ 1000) : CallA Try.prog 90 [aI n] [rLL (matF n fun _ _ => 0)] [] := by
  have e0 : (matF n fun _ _ => 0) = List.replicate n (List.replicate n 0) := by simp [matF, List.map_const']
  rw [e0]
  have hset : ∀ j, j < n → (List.replicate j (List.replicate n (0 : Int)) ++ List.replicate (n - j) []).set j (List.replicate n 0) = List.replicate (j + 1) (List.replicate n 0) ++ List.replicate (n - (j + 1)) [] := fun j hj => by
    rw [List.set_append_right _ _ (by simp), List.length_replicate, Nat.sub_self, show n - j = (n - (j + 1)) + 1 by omega, List.replicate_succ, List.set_cons_zero, List.replicate_succ', List.append_assoc]
    rfl
  refine callA_of _ Try.func90 rfl Try.ntmps90 (by first | exact ⟨rfl, rfl⟩ | (simp only [List.all_cons, List.all_nil, V.solid, D.solid, D.solids, solids_ints, solids_bools, solids_LL, Bool.and_self, Bool.and_true, and_self]; done) | simp [V.solid, D.solid, D.solids, solids_lits, solids_ints, solids_bools, solids_LL]) ?_
  repeat' (first | (guard_target =~ WpA _ _ _ _ _ _; first | refine WpA.seq ?_ | refine WpA.drawU ?_ | refine WpA.regionU ?_ | refine WpA.block ?_ | refine WpA.ret ?_ | refine WpA.skip ?_ | refine WpA.exit ?_ | refine WpA.cond_true rfl ?_ | refine WpA.cond_false rfl ?_ | refine WpA.cond_ntrue rfl ?_ | refine WpA.cond_dec rfl (fun _ => ?_) (fun _ => ?_) | refine WpA.cond_not rfl (fun _ => ?_) (fun _ => ?_) | refine WpA.cond rfl (fun _ => ?_) (fun _ => ?_)) | (guard_target =~ RunU _ _ _ _ [] _ _ _ _; first | refine RunU.nilL ?_ | refine RunU.nilD (by kernel_rfl) ?_) | (guard_target =~ RunU _ _ _ _ (Oper.mk _ _ _ _ _ none :: _) _ _ _ _; refine RunU.cons step_any ?_) | refine Then.next ?_ | refine InBlock.next ?_ | refine Done.ret (.one (by first | exact .c rfl | exact .own rfl | exact .als rfl rfl | exact .ptr rfl rfl | exact .part rfl rfl rfl) .nil) (.sh .nil) ?_ rfl)
  refine WpA.loop_ids2 (fun j i3 _ => [(0, vGI n), (3, .own i3 (.sl true 1 (LL (List.replicate j (List.replicate n (0 : Int)) ++ List.replicate (n - j) [])))), (8, vGI n), (9, vGI j)]) (fun j => j ≤ n) (fun j => n - j) 0 _ 0 (by omega) ⟨rfl, by exact own_LLr rfl (by simp [LL, ints]), int_eq (by simp), rfl, trivial⟩ ?_
  intro j i3 _ s nx hj
  have hl : (List.replicate j (List.replicate n (0 : Int)) ++ List.replicate (n - j) []).length = n := by simp; omega
  by_cases hlt : j < n
  · have e := hset j hlt
    rw [show ∀ A : List (List Int), A.set j (List.replicate n 0) = A.set (j * 1) (List.replicate ((n : Int)).toNat 0) from fun A => by rw [Nat.mul_one]; rfl] at e
    generalize List.replicate j (List.replicate n (0 : Int)) ++ List.replicate (n - j) [] = A at *
    repeat' (first | (guard_target =~ WpA _ _ _ _ _ _; first | refine WpA.seq ?_ | refine WpA.drawU ?_ | refine WpA.regionU ?_ | refine WpA.block ?_ | refine WpA.ret ?_ | refine WpA.skip ?_ | refine WpA.exit ?_ | refine WpA.cond_true rfl ?_ | refine WpA.cond_false rfl ?_ | refine WpA.cond_ntrue rfl ?_ | refine WpA.cond_dec rfl (fun _ => ?_) (fun _ => ?_) | refine WpA.cond_not rfl (fun _ => ?_) (fun _ => ?_) | refine WpA.cond rfl (fun _ => ?_) (fun _ => ?_)) | (guard_target =~ RunU _ _ _ _ [] _ _ _ _; first | refine RunU.nilL ?_ | refine RunU.nilD (by kernel_rfl) ?_) | (guard_target =~ RunU _ _ _ _ (Oper.mk _ _ _ _ _ none :: _) _ _ _ _; refine RunU.cons step_any ?_) | refine Then.next ?_ | refine InBlock.next ?_ | refine Done.ret (.one (by first | exact .c rfl | exact .own rfl | exact .als rfl rfl | exact .ptr rfl rfl | exact .part rfl rfl rfl) .nil) (.sh .nil) ?_ rfl)
    all_goals try (exfalso; omega)
    exact ⟨j + 1, by omega, ⟨_, 0, rfl, by exact own_overL e, rfl, int_eq (by omega), trivial⟩, by omega⟩
  · have ej : j = n := by omega
    subst ej
    have e : List.replicate j (List.replicate j (0 : Int)) ++ List.replicate (j - j) [] = List.replicate j (List.replicate j 0) := by simp
    rw [e] at *
    repeat' (first | (guard_target =~ WpA _ _ _ _ _ _; first | refine WpA.seq ?_ | refine WpA.drawU ?_ | refine WpA.regionU ?_ | refine WpA.block ?_ | refine WpA.ret ?_ | refine WpA.skip ?_ | refine WpA.exit ?_ | refine WpA.cond_true rfl ?_ | refine WpA.cond_false rfl ?_ | refine WpA.cond_ntrue rfl ?_ | refine WpA.cond_dec rfl (fun _ => ?_) (fun _ => ?_) | refine WpA.cond_not rfl (fun _ => ?_) (fun _ => ?_) | refine WpA.cond rfl (fun _ => ?_) (fun _ => ?_)) | (guard_target =~ RunU _ _ _ _ [] _ _ _ _; first | refine RunU.nilL ?_ | refine RunU.nilD (by kernel_rfl) ?_) | (guard_target =~ RunU _ _ _ _ (Oper.mk _ _ _ _ _ none :: _) _ _ _ _; refine RunU.cons step_any ?_) | refine Then.next ?_ | refine InBlock.next ?_ | refine Done.ret (.one (by first | exact .c rfl | exact .own rfl | exact .als rfl rfl | exact .ptr rfl rfl | exact .part rfl rfl rfl) .nil) (.sh .nil) ?_ rfl)
    all_goals try (exfalso; omega)
    all_goals rfl
end Go.Proofs.Ytleleajafgmpbaa
namespace Go.Proofs.Ytleleajafgmpbaa
set_option maxHeartbeats 20000000
set_option linter.unusedVariables false
set_option linter.unusedSimpArgs false
open Go.Pv
open Go.ChangeShapes Go.WideShapes Go.ChangeAt Go.RowKit
attribute [local irreducible] RunU WpA Step CallG CallNG Done DoneN
instance fnOk110 : FnOk Try.prog 110 := ⟨_, Try.func110, rfl, by decide⟩
instance fnOk94 : FnOk Try.prog 94 := ⟨_, Try.func94, rfl, by decide⟩
theorem matF_at {n i k : Nat} (f : Nat → Nat → Int) (hi : i < n) (hk : k < n) : ((matF n f).getD i []).getD k 0 = f i k := by
  rw [matF_row f hi]
  simp [List.getD_eq_getElem?_getD, hk]
def pmF (P S : List Int) (L : List Int) (i k : Nat) (a t : Nat) : Int := if a < i then pe P S a t else if a = i then (if t = i then 1 else if (t : Int) ∈ L.take k then -1 else 0) else 0
theorem prM_mat (P S : List Int) (n : Nat) : prM P S n n = matF n fun a t => pe P S a t := rfl
theorem pm_end {P S W : List Int} (h : Cl P S W) {i : Nat} (hi : i < P.length) : matF P.length (pmF P S (prxAt P S i) i (prxAt P S i).length) = matF P.length fun a t => if a < i + 1 then pe P S a t else 0 := by
  refine matF_congr fun a t ha ht => ?_
  unfold pmF
  by_cases h1 : a < i
  · rw [if_pos h1, if_pos (by omega)]
  · rw [if_neg h1]
    by_cases h2 : a = i
    · subst h2
      rw [if_pos rfl, if_pos (Nat.lt_succ_self a), List.take_length, pe]
      by_cases h3 : t = a
      · rw [if_pos h3, if_pos h3.symm]
      · rw [if_neg h3, if_neg (Ne.symm h3)]
        have hiff : (t : Int) ∈ prxAt P S a ↔ P.getD a 0 = (t : Int) ∨ S.getD a 0 = (t : Int) := by
          by_cases h0 : a = 0
          · subst h0
            have := h.p0
            rw [show prxAt P S 0 = [] by simp [prxAt]]
            constructor
            · intro q; simp at q
            · intro q; omega
          · have hs := h.s a hi
            by_cases hs0 : 0 ≤ S.getD a 0
            · rw [show prxAt P S a = [S.getD a 0, P.getD a 0] by simp only [prxAt, if_neg h0, if_pos hs0]; rfl]
              simp only [List.mem_cons, List.not_mem_nil, or_false]
              omega
            · rw [show prxAt P S a = [P.getD a 0] by simp only [prxAt, if_neg h0, if_neg hs0]; rfl]
              simp only [List.mem_cons, List.not_mem_nil, or_false]
              omega
        by_cases h4 : (t : Int) ∈ prxAt P S a
        · rw [if_pos h4, if_pos (hiff.1 h4)]
        · rw [if_neg h4, if_neg (fun q => h4 (hiff.2 q))]
    · rw [if_neg h2, if_neg (by omega)]
theorem pm_first {P S : List Int} {i : Nat} (L : List Int) (hi : i < P.length) : (matF P.length fun a t => if a < i then pe P S a t else 0).set i (((matF P.length fun a t => if a < i then pe P S a t else 0).getD i []).set i 1) = matF P.length (pmF P S L i 0) := by
  rw [matF_set hi hi]
  refine matF_congr fun a t ha ht => ?_
  unfold pmF
  by_cases h1 : a < i
  · rw [if_neg (by omega), if_pos h1, if_pos h1]
  · rw [if_neg h1, if_neg h1]
    by_cases h2 : a = i
    · by_cases h3 : t = i
      · rw [if_pos ⟨h2, h3⟩, if_pos h2, if_pos h3]
      · rw [if_neg (fun q => h3 q.2), if_pos h2, if_neg h3]
        simp
    · rw [if_neg (fun q => h2 q.1), if_neg h2]
theorem pm_next {P S L : List Int} {i k b : Nat} (hi : i < P.length) (hb : b < i) (hk : k < L.length) (hL : L.getD k 0 = (b : Int)) : (matF P.length (pmF P S L i k)).set i (((matF P.length (pmF P S L i k)).getD i []).set b (-1)) = matF P.length (pmF P S L i (k + 1)) := by
  rw [matF_set hi (by omega)]
  refine matF_congr fun a t ha ht => ?_
  have hLk : L.take (k + 1) = L.take k ++ [(b : Int)] := by
    rw [List.take_add_one, List.getElem?_eq_getElem hk, ← hL, List.getD_eq_getElem?_getD, List.getElem?_eq_getElem hk]
    rfl
  unfold pmF
  by_cases h1 : a < i
  · rw [if_neg (by omega), if_pos h1, if_pos h1]
  · rw [if_neg h1, if_neg h1]
    by_cases h2 : a = i
    · rw [if_pos h2, if_pos h2, hLk]
      by_cases h3 : t = b
      · rw [if_pos ⟨h2, h3⟩, if_neg (by omega), if_pos (by rw [h3]; simp)]
      · rw [if_neg (fun q => h3 q.2)]
        by_cases h4 : t = i
        · rw [if_pos h4, if_pos h4]
        · rw [if_neg h4, if_neg h4]
          simp only [List.mem_append, List.mem_cons, List.not_mem_nil, or_false]
          by_cases h5 : (t : Int) ∈ L.take k
          · rw [if_pos h5, if_pos (.inl h5)]
          · rw [if_neg h5, if_neg (fun q => q.elim h5 (fun q => by omega))]
    · rw [if_neg (fun q => h2 q.1), if_neg h2, if_neg h2]
set_option maxRecDepth 100000 in
theorem prox_c (P S W : List Int) (h : Cl P S W) : CallA Try.prog 110 [aCl P S W] [rLL (prM P S P.length P.length)] [] := by
  have hl := h.len
  have hP := clPrx_c P S W h
  have hSq := square_c P.length (by omega)
  have hML := prxTo_len P S P.length
  have hMa : ∀ j, j < P.length → (prxTo P S P.length).getD (j * 1) [] = prxAt P S j := fun j hj => by rw [Nat.mul_one]; exact prxTo_at P S hj
  have hend := fun i (hi : i < P.length) => pm_end h hi
  have hmem := fun j (hj : j < P.length) => prxAt_mem h hj
  have hpl := prxAt_len P S
  have hfull : (matF P.length fun a t => if a < P.length then pe P S a t else 0) = prM P S P.length P.length := by
    rw [prM_mat]
    exact matF_congr fun a t ha _ => if_pos ha
  have hzero : (matF P.length fun _ _ => 0) = matF P.length fun a t => if a < 0 then pe P S a t else 0 := matF_congr fun a t ha _ => (if_neg (by omega)).symm
  rw [hzero] at hSq
  clear h hzero
  generalize prxTo P S P.length = M at *
  refine callA_of _ Try.func110 rfl Try.ntmps110 (by first | exact ⟨rfl, rfl⟩ | (simp only [List.all_cons, List.all_nil, V.solid, D.solid, D.solids, solids_ints, solids_bools, solids_LL, Bool.and_self, Bool.and_true, and_self]; done) | simp [V.solid, D.solid, D.solids, solids_lits, solids_ints, solids_bools, solids_LL]) ?_
  repeat' (first | (guard_target =~ WpA _ _ _ _ _ _; first | refine WpA.seq ?_ | refine WpA.drawU ?_ | refine WpA.regionU ?_ | refine WpA.block ?_ | refine WpA.ret ?_ | refine WpA.skip ?_ | refine WpA.exit ?_ | refine WpA.cond_true rfl ?_ | refine WpA.cond_false rfl ?_ | refine WpA.cond_ntrue rfl ?_ | refine WpA.cond_dec rfl (fun _ => ?_) (fun _ => ?_) | refine WpA.cond_not rfl (fun _ => ?_) (fun _ => ?_) | refine WpA.cond rfl (fun _ => ?_) (fun _ => ?_)) | (guard_target =~ RunU _ _ _ _ [] _ _ _ _; first | refine RunU.nilL ?_ | refine RunU.nilD (by kernel_rfl) ?_) | (guard_target =~ RunU _ _ _ _ (Oper.mk _ (Op.call ⟨Callee.value _, _, _⟩) _ _ _ none :: _) _ _ _ _; first | refine RunU.cons (step_call (hP) (.sh .nil) (.shAgg rfl aggs_any .nil) rfl) ?_ | refine RunU.cons (step_call (hSq) (.sh .nil) (.sh shows_any .nil) rfl) ?_) | (guard_target =~ RunU _ _ _ _ (Oper.mk _ _ _ _ _ none :: _) _ _ _ _; refine RunU.cons step_any ?_) | ((fail_if_success (guard_target =~ @Eq _ _ _)); (fail_if_success (guard_target =~ @Exists _ _)); first | refine Then.next ?_ | refine InBlock.next ?_ | refine Done.ret (.one (by first | exact .c rfl | exact .own rfl | exact .als rfl rfl | exact .ptr rfl rfl | exact .part rfl rfl rfl) .nil) (.sh .nil) ?_ rfl))
  clear hP hSq
  refine WpA.loop_ids2 (fun j i3 i13 => [(3, .own i3 (.sl true 1 (LL (matF P.length fun a t => if a < j then pe P S a t else 0)))), (13, .own i13 (.sl true 1 (LL M))), (14, vJ P.length), (15, vJ j)]) (fun j => j ≤ P.length) (fun j => P.length - j) 0 _ _ (by omega) ⟨by exact rfl, by exact rfl, int_eq (by omega), rfl, trivial⟩ ?_
  intro j i3 i13 s nx hj
  by_cases hlt : j < P.length
  · have ha := hMa j hlt
    have hend := hend j hlt
    have hmem := hmem j hlt
    have hpl := hpl j
    have e1 := pm_first (S := S) (prxAt P S j) hlt
    rw [← ha] at hmem e1 hend hpl
    have hl1 := matF_len P.length fun a t => if a < j then pe P S a t else 0
    have hr1 := matF_rlen (i := j * 1) (fun a t => if a < j then pe P S a t else 0) (show j * 1 < P.length by omega)
    have hst := fun k b (hb : b < j) (hk : k < (M.getD (j * 1) []).length) (hL : (M.getD (j * 1) []).getD k 0 = (b : Int)) => pm_next (P := P) (S := S) (i := j) hlt hb hk hL
    have hl2 := fun k => matF_len P.length (pmF P S (M.getD (j * 1) []) j k)
    have hr2 := fun k => matF_rlen (i := j * 1) (pmF P S (M.getD (j * 1) []) j k) (show j * 1 < P.length by omega)
    have e1' : (matF P.length fun a t => if a < j then pe P S a t else 0).set (j * 1) (((matF P.length fun a t => if a < j then pe P S a t else 0).getD (j * 1) []).set (j * 1) 1) = matF P.length (pmF P S (M.getD (j * 1) []) j 0) := by
      simp only [Nat.mul_one] at e1 ⊢; exact e1
    clear e1 hMa ha hfull
    generalize (matF P.length fun a t => if a < j then pe P S a t else 0) = A1 at *
    repeat' (first | (guard_target =~ WpA _ _ _ _ _ _; first | refine WpA.seq ?_ | refine WpA.drawU ?_ | refine WpA.regionU ?_ | refine WpA.block ?_ | refine WpA.ret ?_ | refine WpA.skip ?_ | refine WpA.exit ?_ | refine WpA.cond_true rfl ?_ | refine WpA.cond_false rfl ?_ | refine WpA.cond_ntrue rfl ?_ | refine WpA.cond_dec rfl (fun _ => ?_) (fun _ => ?_) | refine WpA.cond_not rfl (fun _ => ?_) (fun _ => ?_) | refine WpA.cond rfl (fun _ => ?_) (fun _ => ?_)) | (guard_target =~ RunU _ _ _ _ [] _ _ _ _; first | refine RunU.nilL ?_ | refine RunU.nilD (by kernel_rfl) ?_) | (guard_target =~ RunU _ _ _ _ (Oper.mk _ _ _ _ _ none :: _) _ _ _ _; refine RunU.cons step_any ?_) | ((fail_if_success (guard_target =~ @Eq _ _ _)); (fail_if_success (guard_target =~ @Exists _ _)); first | refine Then.next ?_ | refine InBlock.next ?_ | refine Done.ret (.one (by first | exact .c rfl | exact .own rfl | exact .als rfl rfl | exact .ptr rfl rfl | exact .part rfl rfl rfl) .nil) (.sh .nil) ?_ rfl))
    all_goals try (exfalso; omega)
    refine WpA.loop_slots2 (fun k i3 => [(3, .own i3 (.sl true 1 (LL (matF P.length (pmF P S (M.getD (j * 1) []) j k))))), (4, vJ j), (13, .own i13 (.sl true 1 (LL M))), (14, vJ P.length), (15, vJ j), (26, .als 13 i13 ([] ++ [j * 1])), (27, vJ (M.getD (j * 1) []).length), (28, vJ k)]) (fun k => k ≤ (M.getD (j * 1) []).length) (fun k => (M.getD (j * 1) []).length - k) 0 _ (by omega) ⟨by exact own_put_LL (by omega) e1', rfl, rfl, rfl, rfl, rfl, rfl, rfl, trivial⟩ ?_
    intro k i3 s nx hk
    clear e1'
    by_cases hkl : k < (M.getD (j * 1) []).length
    · have m1 := hmem (k * 1) (by omega)
      have hst := hst k ((M.getD (j * 1) []).getD (k * 1) 0).toNat (by omega) hkl (by simp only [Nat.mul_one] at m1 ⊢; omega)
      have hl2 := hl2 k
      have hr2 := hr2 k
      have e2 : (matF P.length (pmF P S (M.getD (j * 1) []) j k)).set (j * 1) (((matF P.length (pmF P S (M.getD (j * 1) []) j k)).getD (j * 1) []).set (((M.getD (j * 1) []).getD (k * 1) 0).toNat * 1) (-1)) = matF P.length (pmF P S (M.getD (j * 1) []) j (k + 1)) := by
        simp only [Nat.mul_one] at hst ⊢; exact hst
      clear hst hmem hend
      generalize matF P.length (pmF P S (M.getD (j * 1) []) j k) = B1 at *
      repeat' (first | (guard_target =~ WpA _ _ _ _ _ _; first | refine WpA.seq ?_ | refine WpA.drawU ?_ | refine WpA.regionU ?_ | refine WpA.block ?_ | refine WpA.ret ?_ | refine WpA.skip ?_ | refine WpA.exit ?_ | refine WpA.cond_true rfl ?_ | refine WpA.cond_false rfl ?_ | refine WpA.cond_ntrue rfl ?_ | refine WpA.cond_dec rfl (fun _ => ?_) (fun _ => ?_) | refine WpA.cond_not rfl (fun _ => ?_) (fun _ => ?_) | refine WpA.cond rfl (fun _ => ?_) (fun _ => ?_)) | (guard_target =~ RunU _ _ _ _ [] _ _ _ _; first | refine RunU.nilL ?_ | refine RunU.nilD (by kernel_rfl) ?_) | (guard_target =~ RunU _ _ _ _ (Oper.mk _ _ _ _ _ none :: _) _ _ _ _; refine RunU.cons step_any ?_) | ((fail_if_success (guard_target =~ @Eq _ _ _)); (fail_if_success (guard_target =~ @Exists _ _)); first | refine Then.next ?_ | refine InBlock.next ?_ | refine Done.ret (.one (by first | exact .c rfl | exact .own rfl | exact .als rfl rfl | exact .ptr rfl rfl | exact .part rfl rfl rfl) .nil) (.sh .nil) ?_ rfl))
      all_goals try (exfalso; omega)
      all_goals exact ⟨k + 1, by omega, ⟨_, by exact own_put_LL (by omega) e2, rfl, rfl, rfl, rfl, rfl, rfl, int_eq (by omega), trivial⟩, by omega⟩
    · obtain rfl : k = (M.getD (j * 1) []).length := by omega
      clear hmem hst hl2 hr2
      rw [hend]
      repeat' (first | (guard_target =~ WpA _ _ _ _ _ _; first | refine WpA.seq ?_ | refine WpA.drawU ?_ | refine WpA.regionU ?_ | refine WpA.block ?_ | refine WpA.ret ?_ | refine WpA.skip ?_ | refine WpA.exit ?_ | refine WpA.cond_true rfl ?_ | refine WpA.cond_false rfl ?_ | refine WpA.cond_ntrue rfl ?_ | refine WpA.cond_dec rfl (fun _ => ?_) (fun _ => ?_) | refine WpA.cond_not rfl (fun _ => ?_) (fun _ => ?_) | refine WpA.cond rfl (fun _ => ?_) (fun _ => ?_)) | (guard_target =~ RunU _ _ _ _ [] _ _ _ _; first | refine RunU.nilL ?_ | refine RunU.nilD (by kernel_rfl) ?_) | (guard_target =~ RunU _ _ _ _ (Oper.mk _ _ _ _ _ none :: _) _ _ _ _; refine RunU.cons step_any ?_) | ((fail_if_success (guard_target =~ @Eq _ _ _)); (fail_if_success (guard_target =~ @Exists _ _)); first | refine Then.next ?_ | refine InBlock.next ?_ | refine Done.ret (.one (by first | exact .c rfl | exact .own rfl | exact .als rfl rfl | exact .ptr rfl rfl | exact .part rfl rfl rfl) .nil) (.sh .nil) ?_ rfl))
      all_goals try (exfalso; omega)
      all_goals exact ⟨j + 1, by omega, ⟨_, _, rfl, rfl, rfl, int_eq (by omega), trivial⟩, by omega⟩
  · obtain rfl : j = P.length := by omega
    rw [hfull]
    clear hmem hend hMa
    repeat' (first | (guard_target =~ WpA _ _ _ _ _ _; first | refine WpA.seq ?_ | refine WpA.drawU ?_ | refine WpA.regionU ?_ | refine WpA.block ?_ | refine WpA.ret ?_ | refine WpA.skip ?_ | refine WpA.exit ?_ | refine WpA.cond_true rfl ?_ | refine WpA.cond_false rfl ?_ | refine WpA.cond_ntrue rfl ?_ | refine WpA.cond_dec rfl (fun _ => ?_) (fun _ => ?_) | refine WpA.cond_not rfl (fun _ => ?_) (fun _ => ?_) | refine WpA.cond rfl (fun _ => ?_) (fun _ => ?_)) | (guard_target =~ RunU _ _ _ _ [] _ _ _ _; first | refine RunU.nilL ?_ | refine RunU.nilD (by kernel_rfl) ?_) | (guard_target =~ RunU _ _ _ _ (Oper.mk _ _ _ _ _ none :: _) _ _ _ _; refine RunU.cons step_any ?_) | ((fail_if_success (guard_target =~ @Eq _ _ _)); (fail_if_success (guard_target =~ @Exists _ _)); first | refine Then.next ?_ | refine InBlock.next ?_ | refine Done.ret (.one (by first | exact .c rfl | exact .own rfl | exact .als rfl rfl | exact .ptr rfl rfl | exact .part rfl rfl rfl) .nil) (.sh .nil) ?_ rfl))
    all_goals first | rfl | (exfalso; omega)
def emF (P S : List Int) (j a k : Nat) (i t : Nat) : Int := if i < a ∨ (i = a ∧ t < k) then mtTo P S (j + 1) i t else mtTo P S j i t
theorem em_first (P S : List Int) (n j : Nat) : matF n (emF P S j 0 0) = matF n (mtTo P S j) := matF_congr fun i t _ _ => by
  unfold emF
  rw [if_neg (by omega)]
theorem em_row (P S : List Int) (n j a : Nat) : matF n (emF P S j a n) = matF n (emF P S j (a + 1) 0) := matF_congr fun i t hi ht => by
  unfold emF
  by_cases h : i < a ∨ i = a
  · rw [if_pos (by omega), if_pos (by omega)]
  · rw [if_neg (by omega), if_neg (by omega)]
theorem em_end (P S : List Int) (n j : Nat) : matF n (emF P S j n 0) = matF n (mtTo P S (j + 1)) := matF_congr fun i t hi _ => by
  unfold emF
  rw [if_pos (.inl hi)]
theorem em_next {P S : List Int} {n j a k : Nat} (ha : a < n) (hk : k < n) : (matF n (emF P S j a k)).set a (((matF n (emF P S j a k)).getD a []).set k (((matF n (emF P S j a k)).getD a []).getD k 0 - pe P S j a * pe P S j k)) = matF n (emF P S j a (k + 1)) := by
  rw [matF_at _ ha hk, matF_set ha hk]
  refine matF_congr fun i t hi ht => ?_
  unfold emF
  by_cases h : i = a ∧ t = k
  · obtain ⟨rfl, rfl⟩ := h
    rw [if_pos ⟨rfl, rfl⟩, if_neg (by omega), if_pos (by omega)]
    rfl
  · rw [if_neg h]
    by_cases h2 : i < a ∨ i = a ∧ t < k
    · rw [if_pos h2, if_pos (by omega)]
    · rw [if_neg h2, if_neg (by omega)]
theorem mtM_mat (P S : List Int) (n : Nat) : mtM P S n n = matF n (mtTo P S n) := rfl
theorem em_in {P S : List Int} {n j : Nat} (a k : Nat) (hj : j < 24) (i t : Nat) (hi : i < n) (ht : t < n) : -24 ≤ ((matF n (emF P S j a k)).getD i []).getD t 0 ∧ ((matF n (emF P S j a k)).getD i []).getD t 0 ≤ 24 := by
  rw [matF_at _ hi ht]
  have h1 := mtTo_in P S i t j
  have h2 := mtTo_in P S i t (j + 1)
  unfold emF
  split <;> omega
set_option maxRecDepth 100000 in
theorem excMat_c (P S W : List Int) (h : Cl P S W) : CallA Try.prog 94 [aCl P S W] [rLL (mtM P S P.length P.length)] [] := by
  have hl := h.len
  have hP := prox_c P S W h
  have hSq := square_c P.length (by omega)
  have hML := prM_len P S P.length P.length
  have hrl : ∀ i, i < P.length → ((prM P S P.length P.length).getD i []).length = P.length := fun i hi => by rw [prM_at _ _ _ hi, prR_len]
  have hat : ∀ i k, i < P.length → k < P.length → ((prM P S P.length P.length).getD i []).getD k 0 = pe P S i k := fun i k hi hk => by rw [prM_at _ _ _ hi, prR_at _ _ _ hk]
  have hzero : (matF P.length fun _ _ => 0) = matF P.length (mtTo P S 0) := rfl
  rw [hzero, ← hML] at hSq
  rw [mtM_mat]
  clear h hzero
  generalize prM P S P.length P.length = M at *
  refine callA_of _ Try.func94 rfl Try.ntmps94 (by first | exact ⟨rfl, rfl⟩ | (simp only [List.all_cons, List.all_nil, V.solid, D.solid, D.solids, solids_ints, solids_bools, solids_LL, Bool.and_self, Bool.and_true, and_self]; done) | simp [V.solid, D.solid, D.solids, solids_lits, solids_ints, solids_bools, solids_LL]) ?_
  repeat' (first | (guard_target =~ WpA _ _ _ _ _ _; first | refine WpA.seq ?_ | refine WpA.drawU ?_ | refine WpA.regionU ?_ | refine WpA.block ?_ | refine WpA.ret ?_ | refine WpA.skip ?_ | refine WpA.exit ?_ | refine WpA.cond_true rfl ?_ | refine WpA.cond_false rfl ?_ | refine WpA.cond_ntrue rfl ?_ | refine WpA.cond_dec rfl (fun _ => ?_) (fun _ => ?_) | refine WpA.cond_not rfl (fun _ => ?_) (fun _ => ?_) | refine WpA.cond rfl (fun _ => ?_) (fun _ => ?_)) | (guard_target =~ RunU _ _ _ _ [] _ _ _ _; first | refine RunU.nilL ?_ | refine RunU.nilD (by kernel_rfl) ?_) | (guard_target =~ RunU _ _ _ _ (Oper.mk _ (Op.call ⟨Callee.value _, _, _⟩) _ _ _ none :: _) _ _ _ _; first | refine RunU.cons (step_call (hP) (.sh .nil) (.shAgg rfl aggs_any .nil) rfl) ?_ | refine RunU.cons (step_call (hSq) (.sh .nil) (.sh shows_any .nil) rfl) ?_) | (guard_target =~ RunU _ _ _ _ (Oper.mk _ _ _ _ _ none :: _) _ _ _ _; refine RunU.cons step_any ?_) | ((fail_if_success (guard_target =~ @Eq _ _ _)); (fail_if_success (guard_target =~ @Exists _ _)); first | refine Then.next ?_ | refine InBlock.next ?_ | refine Done.ret (.one (by first | exact .c rfl | exact .own rfl | exact .als rfl rfl | exact .ptr rfl rfl | exact .part rfl rfl rfl) .nil) (.sh .nil) ?_ rfl))
  clear hP hSq
  rw [hML]
  refine WpA.loop_ids2 (fun j i3 i4 => [(3, .own i3 (.sl true 1 (LL M))), (4, .own i4 (.sl true 1 (LL (matF P.length (mtTo P S j))))), (16, .als 3 i3 []), (17, vJ P.length), (18, vJ j)]) (fun j => j ≤ P.length) (fun j => P.length - j) 0 _ _ (by omega) ⟨by exact rfl, by exact rfl, by exact rfl, rfl, rfl, trivial⟩ ?_
  intro j i3 i4 s nx hj
  by_cases hlt : j < P.length
  · have r1 := hrl (j * 1) (by omega)
    repeat' (first | (guard_target =~ WpA _ _ _ _ _ _; first | refine WpA.seq ?_ | refine WpA.drawU ?_ | refine WpA.regionU ?_ | refine WpA.block ?_ | refine WpA.ret ?_ | refine WpA.skip ?_ | refine WpA.exit ?_ | refine WpA.cond_true rfl ?_ | refine WpA.cond_false rfl ?_ | refine WpA.cond_ntrue rfl ?_ | refine WpA.cond_dec rfl (fun _ => ?_) (fun _ => ?_) | refine WpA.cond_not rfl (fun _ => ?_) (fun _ => ?_) | refine WpA.cond rfl (fun _ => ?_) (fun _ => ?_)) | (guard_target =~ RunU _ _ _ _ [] _ _ _ _; first | refine RunU.nilL ?_ | refine RunU.nilD (by kernel_rfl) ?_) | (guard_target =~ RunU _ _ _ _ (Oper.mk _ _ _ _ _ none :: _) _ _ _ _; refine RunU.cons step_any ?_) | ((fail_if_success (guard_target =~ @Eq _ _ _)); (fail_if_success (guard_target =~ @Exists _ _)); first | refine Then.next ?_ | refine InBlock.next ?_ | refine Done.ret (.one (by first | exact .c rfl | exact .own rfl | exact .als rfl rfl | exact .ptr rfl rfl | exact .part rfl rfl rfl) .nil) (.sh .nil) ?_ rfl))
    all_goals try (exfalso; omega)
    refine WpA.loop_slots2 (fun a i4 => [(3, .own i3 (.sl true 1 (LL M))), (4, .own i4 (.sl true 1 (LL (matF P.length (emF P S j a 0))))), (6, .als 3 i3 ([] ++ [j * 1])), (16, .als 3 i3 []), (17, vJ P.length), (18, vJ j), (22, .als 3 i3 ([] ++ [j * 1])), (23, vJ P.length), (24, vJ a)]) (fun a => a ≤ P.length) (fun a => P.length - a) 0 _ (by omega) ⟨rfl, by exact own_LL (em_first P S _ j).symm, rfl, rfl, rfl, rfl, rfl, int_eq (by omega), rfl, trivial⟩ ?_
    intro a i4 s nx ha
    by_cases hal : a < P.length
    · repeat' (first | (guard_target =~ WpA _ _ _ _ _ _; first | refine WpA.seq ?_ | refine WpA.drawU ?_ | refine WpA.regionU ?_ | refine WpA.block ?_ | refine WpA.ret ?_ | refine WpA.skip ?_ | refine WpA.exit ?_ | refine WpA.cond_true rfl ?_ | refine WpA.cond_false rfl ?_ | refine WpA.cond_ntrue rfl ?_ | refine WpA.cond_dec rfl (fun _ => ?_) (fun _ => ?_) | refine WpA.cond_not rfl (fun _ => ?_) (fun _ => ?_) | refine WpA.cond rfl (fun _ => ?_) (fun _ => ?_)) | (guard_target =~ RunU _ _ _ _ [] _ _ _ _; first | refine RunU.nilL ?_ | refine RunU.nilD (by kernel_rfl) ?_) | (guard_target =~ RunU _ _ _ _ (Oper.mk _ _ _ _ _ none :: _) _ _ _ _; refine RunU.cons step_any ?_) | ((fail_if_success (guard_target =~ @Eq _ _ _)); (fail_if_success (guard_target =~ @Exists _ _)); first | refine Then.next ?_ | refine InBlock.next ?_ | refine Done.ret (.one (by first | exact .c rfl | exact .own rfl | exact .als rfl rfl | exact .ptr rfl rfl | exact .part rfl rfl rfl) .nil) (.sh .nil) ?_ rfl))
      all_goals try (exfalso; omega)
      refine WpA.loop_slots2 (fun k i4 => [(3, .own i3 (.sl true 1 (LL M))), (4, .own i4 (.sl true 1 (LL (matF P.length (emF P S j a k))))), (6, .als 3 i3 ([] ++ [j * 1])), (7, vJ a), (8, vJ ((M.getD (j * 1) []).getD (a * 1) 0)), (16, .als 3 i3 []), (17, vJ P.length), (18, vJ j), (22, .als 3 i3 ([] ++ [j * 1])), (23, vJ P.length), (24, vJ a), (29, .als 3 i3 ([] ++ [j * 1])), (30, vJ P.length), (31, vJ k)]) (fun k => k ≤ P.length) (fun k => P.length - k) 0 _ (by omega) ⟨rfl, by exact rfl, rfl, rfl, rfl, rfl, rfl, rfl, rfl, rfl, rfl, rfl, int_eq (by omega), rfl, trivial⟩ ?_
      intro k i4 s nx hk
      have hl2 := matF_len P.length (emF P S j a k)
      have hr2 := matF_rlen (i := a * 1) (emF P S j a k) (show a * 1 < P.length by omega)
      by_cases hkl : k < P.length
      · have a1 := hat (j * 1) (a * 1) (by omega) (by omega)
        have a2 := hat (j * 1) (k * 1) (by omega) (by omega)
        have m1 := pe_mul P S (j * 1) (a * 1) (k * 1)
        have b1 := em_in (P := P) (S := S) a k (show j < 24 by omega) (a * 1) (k * 1) (n := P.length) (by omega) (by omega)
        have e := em_next (P := P) (S := S) (j := j) hal hkl
        rw [show pe P S j a * pe P S j k = pe P S (j * 1) (a * 1) * pe P S (j * 1) (k * 1) by simp only [Nat.mul_one]] at e
        rw [← a1, ← a2] at e m1
        have e2 : (matF P.length (emF P S j a k)).set (a * 1) (((matF P.length (emF P S j a k)).getD (a * 1) []).set (k * 1) (((matF P.length (emF P S j a k)).getD (a * 1) []).getD (k * 1) 0 - (M.getD (j * 1) []).getD (a * 1) 0 * (M.getD (j * 1) []).getD (k * 1) 0)) = matF P.length (emF P S j a (k + 1)) := by
          simp only [Nat.mul_one] at e ⊢; exact e
        clear e a1 a2 hat hrl
        generalize matF P.length (emF P S j a k) = B1 at *
        repeat' (first | (guard_target =~ WpA _ _ _ _ _ _; first | refine WpA.seq ?_ | refine WpA.drawU ?_ | refine WpA.regionU ?_ | refine WpA.block ?_ | refine WpA.ret ?_ | refine WpA.skip ?_ | refine WpA.exit ?_ | refine WpA.cond_true rfl ?_ | refine WpA.cond_false rfl ?_ | refine WpA.cond_ntrue rfl ?_ | refine WpA.cond_dec rfl (fun _ => ?_) (fun _ => ?_) | refine WpA.cond_not rfl (fun _ => ?_) (fun _ => ?_) | refine WpA.cond rfl (fun _ => ?_) (fun _ => ?_)) | (guard_target =~ RunU _ _ _ _ [] _ _ _ _; first | refine RunU.nilL ?_ | refine RunU.nilD (by kernel_rfl) ?_) | (guard_target =~ RunU _ _ _ _ (Oper.mk _ _ _ _ _ none :: _) _ _ _ _; refine RunU.cons step_any ?_) | ((fail_if_success (guard_target =~ @Eq _ _ _)); (fail_if_success (guard_target =~ @Exists _ _)); first | refine Then.next ?_ | refine InBlock.next ?_ | refine Done.ret (.one (by first | exact .c rfl | exact .own rfl | exact .als rfl rfl | exact .ptr rfl rfl | exact .part rfl rfl rfl) .nil) (.sh .nil) ?_ rfl))
        all_goals try (exfalso; omega)
        all_goals exact ⟨k + 1, by omega, ⟨_, rfl, by exact own_put_LL (by omega) e2, rfl, rfl, rfl, rfl, rfl, rfl, rfl, rfl, rfl, rfl, rfl, int_eq (by omega), trivial⟩, by omega⟩
      · obtain rfl : k = P.length := by omega
        have er := em_row P S P.length j a
        clear hat hrl
        repeat' (first | (guard_target =~ WpA _ _ _ _ _ _; first | refine WpA.seq ?_ | refine WpA.drawU ?_ | refine WpA.regionU ?_ | refine WpA.block ?_ | refine WpA.ret ?_ | refine WpA.skip ?_ | refine WpA.exit ?_ | refine WpA.cond_true rfl ?_ | refine WpA.cond_false rfl ?_ | refine WpA.cond_ntrue rfl ?_ | refine WpA.cond_dec rfl (fun _ => ?_) (fun _ => ?_) | refine WpA.cond_not rfl (fun _ => ?_) (fun _ => ?_) | refine WpA.cond rfl (fun _ => ?_) (fun _ => ?_)) | (guard_target =~ RunU _ _ _ _ [] _ _ _ _; first | refine RunU.nilL ?_ | refine RunU.nilD (by kernel_rfl) ?_) | (guard_target =~ RunU _ _ _ _ (Oper.mk _ _ _ _ _ none :: _) _ _ _ _; refine RunU.cons step_any ?_) | ((fail_if_success (guard_target =~ @Eq _ _ _)); (fail_if_success (guard_target =~ @Exists _ _)); first | refine Then.next ?_ | refine InBlock.next ?_ | refine Done.ret (.one (by first | exact .c rfl | exact .own rfl | exact .als rfl rfl | exact .ptr rfl rfl | exact .part rfl rfl rfl) .nil) (.sh .nil) ?_ rfl))
        all_goals try (exfalso; omega)
        all_goals exact ⟨a + 1, by omega, ⟨_, rfl, by exact own_LL er, rfl, rfl, rfl, rfl, rfl, rfl, int_eq (by omega), trivial⟩, by omega⟩
    · obtain rfl : a = P.length := by omega
      have er := em_end P S P.length j
      clear hat hrl
      repeat' (first | (guard_target =~ WpA _ _ _ _ _ _; first | refine WpA.seq ?_ | refine WpA.drawU ?_ | refine WpA.regionU ?_ | refine WpA.block ?_ | refine WpA.ret ?_ | refine WpA.skip ?_ | refine WpA.exit ?_ | refine WpA.cond_true rfl ?_ | refine WpA.cond_false rfl ?_ | refine WpA.cond_ntrue rfl ?_ | refine WpA.cond_dec rfl (fun _ => ?_) (fun _ => ?_) | refine WpA.cond_not rfl (fun _ => ?_) (fun _ => ?_) | refine WpA.cond rfl (fun _ => ?_) (fun _ => ?_)) | (guard_target =~ RunU _ _ _ _ [] _ _ _ _; first | refine RunU.nilL ?_ | refine RunU.nilD (by kernel_rfl) ?_) | (guard_target =~ RunU _ _ _ _ (Oper.mk _ _ _ _ _ none :: _) _ _ _ _; refine RunU.cons step_any ?_) | ((fail_if_success (guard_target =~ @Eq _ _ _)); (fail_if_success (guard_target =~ @Exists _ _)); first | refine Then.next ?_ | refine InBlock.next ?_ | refine Done.ret (.one (by first | exact .c rfl | exact .own rfl | exact .als rfl rfl | exact .ptr rfl rfl | exact .part rfl rfl rfl) .nil) (.sh .nil) ?_ rfl))
      all_goals try (exfalso; omega)
      all_goals exact ⟨j + 1, by omega, ⟨_, _, rfl, by exact own_LL er, rfl, rfl, int_eq (by omega), trivial⟩, by omega⟩
  · obtain rfl : j = P.length := by omega
    clear hat hrl
    repeat' (first | (guard_target =~ WpA _ _ _ _ _ _; first | refine WpA.seq ?_ | refine WpA.drawU ?_ | refine WpA.regionU ?_ | refine WpA.block ?_ | refine WpA.ret ?_ | refine WpA.skip ?_ | refine WpA.exit ?_ | refine WpA.cond_true rfl ?_ | refine WpA.cond_false rfl ?_ | refine WpA.cond_ntrue rfl ?_ | refine WpA.cond_dec rfl (fun _ => ?_) (fun _ => ?_) | refine WpA.cond_not rfl (fun _ => ?_) (fun _ => ?_) | refine WpA.cond rfl (fun _ => ?_) (fun _ => ?_)) | (guard_target =~ RunU _ _ _ _ [] _ _ _ _; first | refine RunU.nilL ?_ | refine RunU.nilD (by kernel_rfl) ?_) | (guard_target =~ RunU _ _ _ _ (Oper.mk _ _ _ _ _ none :: _) _ _ _ _; refine RunU.cons step_any ?_) | ((fail_if_success (guard_target =~ @Eq _ _ _)); (fail_if_success (guard_target =~ @Exists _ _)); first | refine Then.next ?_ | refine InBlock.next ?_ | refine Done.ret (.one (by first | exact .c rfl | exact .own rfl | exact .als rfl rfl | exact .ptr rfl rfl | exact .part rfl rfl rfl) .nil) (.sh .nil) ?_ rfl))
    all_goals first | rfl | (exfalso; omega)
end Go.Proofs.Ytleleajafgmpbaa
