/- The labels of the components of a graph, by the program. No condition. -/
import Derived.Test.YtleleajafgmpbaaYGrC
namespace Go.Proofs.Ytleleajafgmpbaa
set_option maxHeartbeats 20000000
set_option linter.unusedVariables false
set_option linter.unusedSimpArgs false
open Go.Pv
open Go.ChangeShapes Go.WideShapes Go.ChangeAt Go.RowKit
attribute [local irreducible] RunU WpA Step CallG CallNG Done DoneN
abbrev vGI (x : Int) : AV := .c (.lit (.int .i64 x))
theorem cut_len {A L : List Int} {i : Nat} (h : A.length = L.length) (hi : i ≤ L.length) : (A.take i ++ L.drop i).length = L.length := by
  simp only [List.length_append, List.length_take, List.length_drop]; omega
theorem cut_at {A L : List Int} {i k : Nat} (h : A.length = L.length) (hi : i ≤ L.length) : (A.take i ++ L.drop i).getD k 0 = if k < i then A.getD k 0 else L.getD k 0 := by
  have hl : (A.take i).length = i := by rw [List.length_take]; omega
  simp only [List.getD_eq_getElem?_getD]
  by_cases hk : k < i
  · rw [if_pos hk, List.getElem?_append_left (by omega), List.getElem?_take, if_pos hk]
  · rw [if_neg hk, List.getElem?_append_right (by omega), hl, List.getElem?_drop, show i + (k - i) = k by omega]
theorem ext0 {A B : List Int} (h : A.length = B.length) (hk : ∀ k, k < A.length → A.getD k 0 = B.getD k 0) : A = B := by
  refine List.ext_getElem h fun k h1 h2 => ?_
  have := hk k h1
  simpa [List.getD, h1, h2] using this
theorem getD_set {L : List Int} {i k : Nat} {v : Int} (hi : i < L.length) : (L.set i v).getD k 0 = if i = k then v else L.getD k 0 := by
  simp only [List.getD_eq_getElem?_getD, List.getElem?_set]
  split
  · rename_i e; subst e; simp [hi]
  · rfl
theorem cut_set {A L : List Int} {i : Nat} {v : Int} (h : A.length = L.length) (hi : i < L.length) (hv : v = A.getD i 0) : (A.take i ++ L.drop i).set i v = A.take (i + 1) ++ L.drop (i + 1) := by
  have h1 := cut_len h (show i ≤ L.length by omega)
  have h2 := cut_len h (show i + 1 ≤ L.length by omega)
  refine ext0 (by rw [List.length_set, h1, h2]) fun k hk => ?_
  rw [getD_set (by omega), cut_at h (by omega), cut_at h (by omega)]
  by_cases e : i = k
  · subst e; rw [if_pos rfl, if_pos (by omega), hv]
  · rw [if_neg e]
    by_cases e2 : k < i
    · rw [if_pos e2, if_pos (by omega)]
    · rw [if_neg e2, if_neg (by omega)]
theorem cut_same {A L : List Int} {i : Nat} (h : A.length = L.length) (hi : i < L.length) (hv : A.getD i 0 = L.getD i 0) : A.take i ++ L.drop i = A.take (i + 1) ++ L.drop (i + 1) := by
  have h1 := cut_len h (show i ≤ L.length by omega)
  have h2 := cut_len h (show i + 1 ≤ L.length by omega)
  refine ext0 (by rw [h1, h2]) fun k hk => ?_
  rw [cut_at h (by omega), cut_at h (by omega)]
  by_cases e : i = k
  · subst e; rw [if_neg (by omega), if_pos (by omega), hv]
  · by_cases e2 : k < i
    · rw [if_pos e2, if_pos (by omega)]
    · rw [if_neg e2, if_neg (by omega)]
theorem cut_all {A L : List Int} (h : A.length = L.length) : A.take L.length ++ L.drop L.length = A := by
  rw [List.drop_length, List.append_nil, ← h, List.take_length]
def finL (n : Nat) (L : List Int) : List Int := (List.range n).map fun i : Nat => (cnt (isRoot L) (L.getD i 0).toNat : Int)
theorem finL_len (n : Nat) (L : List Int) : (finL n L).length = n := by simp [finL]
theorem finL_at {n : Nat} {L : List Int} {i : Nat} (h : i < n) : (finL n L).getD i 0 = cnt (isRoot L) (L.getD i 0).toNat := by simp [finL, List.getD, h]
theorem max_fin {n : Nat} {L : List Int} (h : Roots n L) : ∀ j, j < n → maxTo (finL n L) j + 1 = cnt (isRoot L) (j + 1)
  | 0, hj => by
    have h0 := h.2 0 hj
    have e : L.getD 0 0 = 0 := by omega
    rw [maxTo, finL_at hj, e]
    have : isRoot L 0 = true := by unfold isRoot; rw [e]; rfl
    simp [cnt, this]
  | j + 1, hj => by
    have ih := max_fin h j (by omega)
    obtain ⟨h0, h1, h2⟩ := h.2 (j + 1) hj
    rw [maxTo, finL_at hj, cnt]
    by_cases hr : L.getD (j + 1) 0 = ((j + 1 : Nat) : Int)
    · have : isRoot L (j + 1) = true := by unfold isRoot; rw [hr]; simp
      rw [this, hr, Int.toNat_natCast]
      simp
      omega
    · have : isRoot L (j + 1) = false := by unfold isRoot; simpa using hr
      rw [this]
      have := cnt_lt (isRoot L) (a := (L.getD (j + 1) 0).toNat) (b := j + 1) (by omega) (by unfold isRoot; rw [h2, beq_iff_eq]; omega)
      show max (maxTo (finL n L) j) (cnt (isRoot L) (L.getD (j + 1) 0).toNat : Int) + 1 = ((cnt (isRoot L) (j + 1) + 0 : Nat) : Int)
      omega
theorem labels_c (n : Nat) (E : List (List Int)) (hn : n ≤ 40) (hE : E.length ≤ 2000000) (hg : GoodE n E) : CallA Try.prog 89 [aI n, aLL E] [rL (finL n (labI n E E.length))] [] := by
  refine callA_of _ Try.func89 rfl Try.ntmps89 (by first | exact ⟨rfl, rfl⟩ | (simp only [List.all_cons, List.all_nil, V.solid, D.solid, D.solids, solids_ints, solids_bools, solids_LL, Bool.and_self, Bool.and_true, and_self]; done) | simp [V.solid, D.solid, D.solids, solids_lits, solids_ints, solids_bools, solids_LL]) ?_
  have hil := iota_len n
  repeat' (first | (guard_target =~ WpA _ _ _ _ _ _; first | refine WpA.seq ?_ | refine WpA.drawU ?_ | refine WpA.regionU ?_ | refine WpA.block ?_ | refine WpA.ret ?_ | refine WpA.skip ?_ | refine WpA.exit ?_ | refine WpA.cond_true rfl ?_ | refine WpA.cond_false rfl ?_ | refine WpA.cond_ntrue rfl ?_ | refine WpA.cond_dec rfl (fun _ => ?_) (fun _ => ?_) | refine WpA.cond_not rfl (fun _ => ?_) (fun _ => ?_) | refine WpA.cond rfl (fun _ => ?_) (fun _ => ?_)) | (guard_target =~ RunU _ _ _ _ [] _ _ _ _; first | refine RunU.nilL ?_ | refine RunU.nilD (by kernel_rfl) ?_) | (guard_target =~ RunU _ _ _ _ (Oper.mk _ _ _ _ _ none :: _) _ _ _ _; refine RunU.cons step_any ?_) | refine Then.next ?_ | refine InBlock.next ?_ | refine Done.ret (.one (by first | exact .c rfl | exact .own rfl | exact .als rfl rfl | exact .ptr rfl rfl | exact .part rfl rfl rfl) .nil) (.sh (.sh .nil)) ?_ rfl)
  refine WpA.loop_slots2 (fun j id => [(1, .c (.sl false 1 (LLs E))), (5, .own id (.sl true 1 (ints ((iota n).take j ++ List.replicate (n - j) 0)))), (17, vGI n), (18, vGI j)]) (fun j => j ≤ n) (fun j => n - j) 0 _ (by omega) ⟨rfl, by exact own_ints (by simp), int_eq (by simp), rfl, trivial⟩ ?_
  intro j id s nx hj
  have hll : ((iota n).take j ++ List.replicate (n - j) 0).length = n := by
    simp only [List.length_append, List.length_take, List.length_replicate]; omega
  by_cases hlt : j < n
  · have e1 : ((iota n).take j ++ List.replicate (n - j) 0).set (j * 1) (j : Int) = (iota n).take (j + 1) ++ List.replicate (n - (j + 1)) 0 := by
      have := fill_step (iota n) j (by omega)
      rw [iota_at hlt, hil] at this
      rw [Nat.mul_one]; exact this
    generalize (iota n).take j ++ List.replicate (n - j) 0 = A at *
    repeat' (first | (guard_target =~ WpA _ _ _ _ _ _; first | refine WpA.seq ?_ | refine WpA.drawU ?_ | refine WpA.regionU ?_ | refine WpA.block ?_ | refine WpA.ret ?_ | refine WpA.skip ?_ | refine WpA.exit ?_ | refine WpA.cond_true rfl ?_ | refine WpA.cond_false rfl ?_ | refine WpA.cond_ntrue rfl ?_ | refine WpA.cond_dec rfl (fun _ => ?_) (fun _ => ?_) | refine WpA.cond_not rfl (fun _ => ?_) (fun _ => ?_) | refine WpA.cond rfl (fun _ => ?_) (fun _ => ?_)) | (guard_target =~ RunU _ _ _ _ [] _ _ _ _; first | refine RunU.nilL ?_ | refine RunU.nilD (by kernel_rfl) ?_) | (guard_target =~ RunU _ _ _ _ (Oper.mk _ _ _ _ _ none :: _) _ _ _ _; refine RunU.cons step_any ?_) | refine Then.next ?_ | refine InBlock.next ?_ | refine Done.ret (.one (by first | exact .c rfl | exact .own rfl | exact .als rfl rfl | exact .ptr rfl rfl | exact .part rfl rfl rfl) .nil) (.sh (.sh .nil)) ?_ rfl)
    all_goals try (exfalso; omega)
    exact ⟨j + 1, by omega, ⟨_, rfl, by exact own_ints e1, rfl, int_eq (by omega), trivial⟩, by omega⟩
  · have e0 : j = n := by omega
    have e1 : (iota n).take j ++ List.replicate (n - j) 0 = labI n E 0 := by
      rw [e0, Nat.sub_self, List.replicate_zero, List.append_nil, List.take_of_length_le (by omega)]; rfl
    rw [e1]
    repeat' (first | (guard_target =~ WpA _ _ _ _ _ _; first | refine WpA.seq ?_ | refine WpA.drawU ?_ | refine WpA.regionU ?_ | refine WpA.block ?_ | refine WpA.ret ?_ | refine WpA.skip ?_ | refine WpA.exit ?_ | refine WpA.cond_true rfl ?_ | refine WpA.cond_false rfl ?_ | refine WpA.cond_ntrue rfl ?_ | refine WpA.cond_dec rfl (fun _ => ?_) (fun _ => ?_) | refine WpA.cond_not rfl (fun _ => ?_) (fun _ => ?_) | refine WpA.cond rfl (fun _ => ?_) (fun _ => ?_)) | (guard_target =~ RunU _ _ _ _ [] _ _ _ _; first | refine RunU.nilL ?_ | refine RunU.nilD (by kernel_rfl) ?_) | (guard_target =~ RunU _ _ _ _ (Oper.mk _ _ _ _ _ none :: _) _ _ _ _; refine RunU.cons step_any ?_) | refine Then.next ?_ | refine InBlock.next ?_ | refine Done.ret (.one (by first | exact .c rfl | exact .own rfl | exact .als rfl rfl | exact .ptr rfl rfl | exact .part rfl rfl rfl) .nil) (.sh (.sh .nil)) ?_ rfl)
    all_goals try (exfalso; omega)
    refine WpA.loop_slots2 (fun j id => [(1, .c (.sl false 1 (LLs E))), (5, .own id (.sl true 1 (ints (labI n E j)))), (26, .c (.sl false 1 (LLs E))), (27, vGI E.length), (28, vGI j)]) (fun j => j ≤ E.length) (fun j => E.length - j) 0 _ (by omega) ⟨rfl, by exact rfl, rfl, rfl, rfl, trivial⟩ ?_
    intro j id s nx hj
    have hl := labI_len n E j
    by_cases hlt : j < E.length
    · have g := hg j hlt
      have r0 : (E.getD (j * 1) []).getD (0 * 1) 0 = ea E j := by rw [Nat.mul_one]; rfl
      have r1 : (E.getD (j * 1) []).getD (1 * 1) 0 = eb E j := by rw [Nat.mul_one]; rfl
      have r2 : (E.getD (j * 1) []).length = 2 := by rw [Nat.mul_one]; exact g.1
      have g1 := g.2.1
      rw [← r0, ← r1] at g1
      have p1 : min ((labI n E j).getD (((E.getD (j * 1) []).getD (0 * 1) 0).toNat * 1) 0) ((labI n E j).getD (((E.getD (j * 1) []).getD (1 * 1) 0).toNat * 1) 0) = min ((labI n E j).getD (ea E j).toNat 0) ((labI n E j).getD (eb E j).toNat 0) := by rw [r0, r1, Nat.mul_one, Nat.mul_one]
      have p2 : max ((labI n E j).getD (((E.getD (j * 1) []).getD (0 * 1) 0).toNat * 1) 0) ((labI n E j).getD (((E.getD (j * 1) []).getD (1 * 1) 0).toNat * 1) 0) = max ((labI n E j).getD (ea E j).toNat 0) ((labI n E j).getD (eb E j).toNat 0) := by rw [r0, r1, Nat.mul_one, Nat.mul_one]
      have hnext : labI n E (j + 1) = mrg (min ((labI n E j).getD (ea E j).toNat 0) ((labI n E j).getD (eb E j).toNat 0)) (max ((labI n E j).getD (ea E j).toNat 0) ((labI n E j).getD (eb E j).toNat 0)) (labI n E j) := rfl
      rw [← p1, ← p2] at hnext
      have hl2 := labI_len n E (j + 1)
      generalize hL : labI n E j = L at *
      repeat' (first | (guard_target =~ WpA _ _ _ _ _ _; first | refine WpA.seq ?_ | refine WpA.drawU ?_ | refine WpA.regionU ?_ | refine WpA.block ?_ | refine WpA.ret ?_ | refine WpA.skip ?_ | refine WpA.exit ?_ | refine WpA.cond_true rfl ?_ | refine WpA.cond_false rfl ?_ | refine WpA.cond_ntrue rfl ?_ | refine WpA.cond_dec rfl (fun _ => ?_) (fun _ => ?_) | refine WpA.cond_not rfl (fun _ => ?_) (fun _ => ?_) | refine WpA.cond rfl (fun _ => ?_) (fun _ => ?_)) | (guard_target =~ RunU _ _ _ _ [] _ _ _ _; first | refine RunU.nilL ?_ | refine RunU.nilD (by kernel_rfl) ?_) | (guard_target =~ RunU _ _ _ _ (Oper.mk _ _ _ _ _ none :: _) _ _ _ _; refine RunU.cons step_any ?_) | refine Then.next ?_ | refine InBlock.next ?_ | refine Done.ret (.one (by first | exact .c rfl | exact .own rfl | exact .als rfl rfl | exact .ptr rfl rfl | exact .part rfl rfl rfl) .nil) (.sh (.sh .nil)) ?_ rfl)
      all_goals try (exfalso; omega)
      generalize hp : min (L.getD (((E.getD (j * 1) []).getD (0 * 1) 0).toNat * 1) 0) (L.getD (((E.getD (j * 1) []).getD (1 * 1) 0).toNat * 1) 0) = p at *
      generalize hq : max (L.getD (((E.getD (j * 1) []).getD (0 * 1) 0).toNat * 1) 0) (L.getD (((E.getD (j * 1) []).getD (1 * 1) 0).toNat * 1) 0) = q at *
      generalize hM : labI n E (j + 1) = M at *
      refine WpA.loop_slots2 (fun i id => [(1, .c (.sl false 1 (LLs E))), (5, .own id (.sl true 1 (ints (M.take i ++ L.drop i)))), (9, vGI p), (10, vGI q), (26, .c (.sl false 1 (LLs E))), (27, vGI E.length), (28, vGI j), (59, vGI n), (60, vGI i)]) (fun i => i ≤ n) (fun i => n - i) 0 _ (by omega) ⟨rfl, by exact own_ints (by simp), rfl, rfl, rfl, rfl, rfl, int_eq (by omega), rfl, trivial⟩ ?_
      intro i id s nx hi
      have c1 := cut_len (A := M) (L := L) (i := i) (by omega) (by omega)
      by_cases hlti : i < n
      · have c2 : (M.take i ++ L.drop i).getD (i * 1) 0 = L.getD i 0 := by rw [Nat.mul_one, cut_at (by omega) (by omega), if_neg (by omega)]
        have m1 : M.getD i 0 = if L.getD i 0 = q then p else L.getD i 0 := by rw [hnext]; exact mrg_at (by omega)
        by_cases hiq : L.getD i 0 = q
        · rw [if_pos hiq] at m1
          have c3 : (M.take i ++ L.drop i).set (i * 1) p = M.take (i + 1) ++ L.drop (i + 1) := by rw [Nat.mul_one]; exact cut_set (by omega) (by omega) m1.symm
          generalize M.take i ++ L.drop i = B at *
          repeat' (first | (guard_target =~ WpA _ _ _ _ _ _; first | refine WpA.seq ?_ | refine WpA.drawU ?_ | refine WpA.regionU ?_ | refine WpA.block ?_ | refine WpA.ret ?_ | refine WpA.skip ?_ | refine WpA.exit ?_ | refine WpA.cond_true rfl ?_ | refine WpA.cond_false rfl ?_ | refine WpA.cond_ntrue rfl ?_ | refine WpA.cond_dec rfl (fun _ => ?_) (fun _ => ?_) | refine WpA.cond_not rfl (fun _ => ?_) (fun _ => ?_) | refine WpA.cond rfl (fun _ => ?_) (fun _ => ?_)) | (guard_target =~ RunU _ _ _ _ [] _ _ _ _; first | refine RunU.nilL ?_ | refine RunU.nilD (by kernel_rfl) ?_) | (guard_target =~ RunU _ _ _ _ (Oper.mk _ _ _ _ _ none :: _) _ _ _ _; refine RunU.cons step_any ?_) | refine Then.next ?_ | refine InBlock.next ?_ | refine Done.ret (.one (by first | exact .c rfl | exact .own rfl | exact .als rfl rfl | exact .ptr rfl rfl | exact .part rfl rfl rfl) .nil) (.sh (.sh .nil)) ?_ rfl)
          all_goals try (exfalso; omega)
          exact ⟨i + 1, by omega, ⟨_, rfl, by exact own_ints c3, rfl, rfl, rfl, rfl, rfl, rfl, int_eq (by omega), trivial⟩, by omega⟩
        · rw [if_neg hiq] at m1
          have c3 : M.take i ++ L.drop i = M.take (i + 1) ++ L.drop (i + 1) := cut_same (by omega) (by omega) m1
          generalize M.take i ++ L.drop i = B at *
          repeat' (first | (guard_target =~ WpA _ _ _ _ _ _; first | refine WpA.seq ?_ | refine WpA.drawU ?_ | refine WpA.regionU ?_ | refine WpA.block ?_ | refine WpA.ret ?_ | refine WpA.skip ?_ | refine WpA.exit ?_ | refine WpA.cond_true rfl ?_ | refine WpA.cond_false rfl ?_ | refine WpA.cond_ntrue rfl ?_ | refine WpA.cond_dec rfl (fun _ => ?_) (fun _ => ?_) | refine WpA.cond_not rfl (fun _ => ?_) (fun _ => ?_) | refine WpA.cond rfl (fun _ => ?_) (fun _ => ?_)) | (guard_target =~ RunU _ _ _ _ [] _ _ _ _; first | refine RunU.nilL ?_ | refine RunU.nilD (by kernel_rfl) ?_) | (guard_target =~ RunU _ _ _ _ (Oper.mk _ _ _ _ _ none :: _) _ _ _ _; refine RunU.cons step_any ?_) | refine Then.next ?_ | refine InBlock.next ?_ | refine Done.ret (.one (by first | exact .c rfl | exact .own rfl | exact .als rfl rfl | exact .ptr rfl rfl | exact .part rfl rfl rfl) .nil) (.sh (.sh .nil)) ?_ rfl)
          all_goals try (exfalso; omega)
          exact ⟨i + 1, by omega, ⟨_, rfl, by exact own_ints c3, rfl, rfl, rfl, rfl, rfl, rfl, int_eq (by omega), trivial⟩, by omega⟩
      · have ei : i = L.length := by omega
        have c3 : M.take i ++ L.drop i = M := by rw [ei]; exact cut_all (by omega)
        rw [c3]
        repeat' (first | (guard_target =~ WpA _ _ _ _ _ _; first | refine WpA.seq ?_ | refine WpA.drawU ?_ | refine WpA.regionU ?_ | refine WpA.block ?_ | refine WpA.ret ?_ | refine WpA.skip ?_ | refine WpA.exit ?_ | refine WpA.cond_true rfl ?_ | refine WpA.cond_false rfl ?_ | refine WpA.cond_ntrue rfl ?_ | refine WpA.cond_dec rfl (fun _ => ?_) (fun _ => ?_) | refine WpA.cond_not rfl (fun _ => ?_) (fun _ => ?_) | refine WpA.cond rfl (fun _ => ?_) (fun _ => ?_)) | (guard_target =~ RunU _ _ _ _ [] _ _ _ _; first | refine RunU.nilL ?_ | refine RunU.nilD (by kernel_rfl) ?_) | (guard_target =~ RunU _ _ _ _ (Oper.mk _ _ _ _ _ none :: _) _ _ _ _; refine RunU.cons step_any ?_) | refine Then.next ?_ | refine InBlock.next ?_ | refine Done.ret (.one (by first | exact .c rfl | exact .own rfl | exact .als rfl rfl | exact .ptr rfl rfl | exact .part rfl rfl rfl) .nil) (.sh (.sh .nil)) ?_ rfl)
        all_goals try (exfalso; omega)
        exact ⟨j + 1, by omega, ⟨_, rfl, by exact own_ints hM.symm, rfl, rfl, int_eq (by omega), trivial⟩, by omega⟩
    · have ej : j = E.length := by omega
      rw [ej] at hl ⊢
      obtain ⟨hr, _⟩ := roots_labI E.length hg
      generalize labI n E E.length = L at *
      repeat' (first | (guard_target =~ WpA _ _ _ _ _ _; first | refine WpA.seq ?_ | refine WpA.drawU ?_ | refine WpA.regionU ?_ | refine WpA.block ?_ | refine WpA.ret ?_ | refine WpA.skip ?_ | refine WpA.exit ?_ | refine WpA.cond_true rfl ?_ | refine WpA.cond_false rfl ?_ | refine WpA.cond_ntrue rfl ?_ | refine WpA.cond_dec rfl (fun _ => ?_) (fun _ => ?_) | refine WpA.cond_not rfl (fun _ => ?_) (fun _ => ?_) | refine WpA.cond rfl (fun _ => ?_) (fun _ => ?_)) | (guard_target =~ RunU _ _ _ _ [] _ _ _ _; first | refine RunU.nilL ?_ | refine RunU.nilD (by kernel_rfl) ?_) | (guard_target =~ RunU _ _ _ _ (Oper.mk _ _ _ _ _ none :: _) _ _ _ _; refine RunU.cons step_any ?_) | refine Then.next ?_ | refine InBlock.next ?_ | refine Done.ret (.one (by first | exact .c rfl | exact .own rfl | exact .als rfl rfl | exact .ptr rfl rfl | exact .part rfl rfl rfl) .nil) (.sh (.sh .nil)) ?_ rfl)
      all_goals try (exfalso; omega)
      have hfl := finL_len n L
      refine WpA.loop_slots2 (fun i id => [(5, .own id (.sl true 1 (ints ((finL n L).take i ++ L.drop i)))), (12, vGI (cnt (isRoot L) i)), (76, vGI n), (77, vGI i)]) (fun i => i ≤ n) (fun i => n - i) 0 _ (by omega) ⟨by exact own_ints (by simp), int_eq (by simp [cnt]), int_eq (by omega), rfl, trivial⟩ ?_
      intro i id s nx hi
      have c1 := cut_len (A := finL n L) (L := L) (i := i) (by omega) (by omega)
      by_cases hlti : i < n
      · obtain ⟨h0, h1, h2⟩ := hr.2 i hlti
        have k1 := cnt_le (isRoot L) i
        have c2 : ((finL n L).take i ++ L.drop i).getD (i * 1) 0 = L.getD i 0 := by rw [Nat.mul_one, cut_at (by omega) (by omega), if_neg (by omega)]
        have f1 := finL_at (L := L) hlti
        by_cases hroot : L.getD i 0 = i
        · rw [hroot, Int.toNat_natCast] at f1
          have c3 : ((finL n L).take i ++ L.drop i).set (i * 1) (cnt (isRoot L) i : Int) = (finL n L).take (i + 1) ++ L.drop (i + 1) := by rw [Nat.mul_one]; exact cut_set (by omega) (by omega) f1.symm
          have k2 : ((cnt (isRoot L) i : Int) + 1) = (cnt (isRoot L) (i + 1) : Nat) := by
            rw [cnt, show isRoot L i = true by unfold isRoot; rw [hroot]; simp]; rfl
          generalize (finL n L).take i ++ L.drop i = B at *
          repeat' (first | (guard_target =~ WpA _ _ _ _ _ _; first | refine WpA.seq ?_ | refine WpA.drawU ?_ | refine WpA.regionU ?_ | refine WpA.block ?_ | refine WpA.ret ?_ | refine WpA.skip ?_ | refine WpA.exit ?_ | refine WpA.cond_true rfl ?_ | refine WpA.cond_false rfl ?_ | refine WpA.cond_ntrue rfl ?_ | refine WpA.cond_dec rfl (fun _ => ?_) (fun _ => ?_) | refine WpA.cond_not rfl (fun _ => ?_) (fun _ => ?_) | refine WpA.cond rfl (fun _ => ?_) (fun _ => ?_)) | (guard_target =~ RunU _ _ _ _ [] _ _ _ _; first | refine RunU.nilL ?_ | refine RunU.nilD (by kernel_rfl) ?_) | (guard_target =~ RunU _ _ _ _ (Oper.mk _ _ _ _ _ none :: _) _ _ _ _; refine RunU.cons step_any ?_) | refine Then.next ?_ | refine InBlock.next ?_ | refine Done.ret (.one (by first | exact .c rfl | exact .own rfl | exact .als rfl rfl | exact .ptr rfl rfl | exact .part rfl rfl rfl) .nil) (.sh (.sh .nil)) ?_ rfl)
          all_goals try (exfalso; omega)
          exact ⟨i + 1, by omega, ⟨_, by exact own_ints c3, int_eq k2, rfl, int_eq (by omega), trivial⟩, by omega⟩
        · have c4 : ((finL n L).take i ++ L.drop i).getD ((L.getD i 0).toNat * 1) 0 = (finL n L).getD i 0 := by
            rw [Nat.mul_one, cut_at (by omega) (by omega), if_pos (by omega), finL_at (by omega), f1, h2]
          have c3 : ((finL n L).take i ++ L.drop i).set (i * 1) ((finL n L).getD i 0) = (finL n L).take (i + 1) ++ L.drop (i + 1) := by rw [Nat.mul_one]; exact cut_set (by omega) (by omega) rfl
          have k2 : cnt (isRoot L) (i + 1) = cnt (isRoot L) i := by
            rw [cnt, show isRoot L i = false by unfold isRoot; simpa using hroot]; rfl
          rw [← c4, ← c2] at c3
          generalize (finL n L).take i ++ L.drop i = B at *
          repeat' (first | (guard_target =~ WpA _ _ _ _ _ _; first | refine WpA.seq ?_ | refine WpA.drawU ?_ | refine WpA.regionU ?_ | refine WpA.block ?_ | refine WpA.ret ?_ | refine WpA.skip ?_ | refine WpA.exit ?_ | refine WpA.cond_true rfl ?_ | refine WpA.cond_false rfl ?_ | refine WpA.cond_ntrue rfl ?_ | refine WpA.cond_dec rfl (fun _ => ?_) (fun _ => ?_) | refine WpA.cond_not rfl (fun _ => ?_) (fun _ => ?_) | refine WpA.cond rfl (fun _ => ?_) (fun _ => ?_)) | (guard_target =~ RunU _ _ _ _ [] _ _ _ _; first | refine RunU.nilL ?_ | refine RunU.nilD (by kernel_rfl) ?_) | (guard_target =~ RunU _ _ _ _ (Oper.mk _ _ _ _ _ none :: _) _ _ _ _; refine RunU.cons step_any ?_) | refine Then.next ?_ | refine InBlock.next ?_ | refine Done.ret (.one (by first | exact .c rfl | exact .own rfl | exact .als rfl rfl | exact .ptr rfl rfl | exact .part rfl rfl rfl) .nil) (.sh (.sh .nil)) ?_ rfl)
          all_goals try (exfalso; omega)
          exact ⟨i + 1, by omega, ⟨_, by exact own_ints c3, int_eq (by rw [k2]), rfl, int_eq (by omega), trivial⟩, by omega⟩
      · have ei : i = L.length := by omega
        have c3 : (finL n L).take i ++ L.drop i = finL n L := by rw [ei]; exact cut_all (by omega)
        rw [c3]
        repeat' (first | (guard_target =~ WpA _ _ _ _ _ _; first | refine WpA.seq ?_ | refine WpA.drawU ?_ | refine WpA.regionU ?_ | refine WpA.block ?_ | refine WpA.ret ?_ | refine WpA.skip ?_ | refine WpA.exit ?_ | refine WpA.cond_true rfl ?_ | refine WpA.cond_false rfl ?_ | refine WpA.cond_ntrue rfl ?_ | refine WpA.cond_dec rfl (fun _ => ?_) (fun _ => ?_) | refine WpA.cond_not rfl (fun _ => ?_) (fun _ => ?_) | refine WpA.cond rfl (fun _ => ?_) (fun _ => ?_)) | (guard_target =~ RunU _ _ _ _ [] _ _ _ _; first | refine RunU.nilL ?_ | refine RunU.nilD (by kernel_rfl) ?_) | (guard_target =~ RunU _ _ _ _ (Oper.mk _ _ _ _ _ none :: _) _ _ _ _; refine RunU.cons step_any ?_) | refine Then.next ?_ | refine InBlock.next ?_ | refine Done.ret (.one (by first | exact .c rfl | exact .own rfl | exact .als rfl rfl | exact .ptr rfl rfl | exact .part rfl rfl rfl) .nil) (.sh (.sh .nil)) ?_ rfl)
        all_goals try (exfalso; omega)
        all_goals rfl
end Go.Proofs.Ytleleajafgmpbaa
