/- The neighbours of a vertex, by the reference. No condition. -/
import Derived.Test.YtmgmpnhlehonmaaGreatWSpA
import Derived.Test.YtmgmpnhlehonmaaGreatWGrC
set_option linter.unusedVariables false
set_option linter.unusedSimpArgs false
namespace Go.Proofs.YtmgmpnhlehonmaaGreat
set_option maxHeartbeats 20000000
open Go.Pv
open Go.ChangeShapes Go.WideShapes Go.ChangeAt Go.RowKit
attribute [local irreducible] Za WpA Zg Xf Zz Z6 Zd
abbrev vGI (x : Int) : AV := .c (.lit (.int .i64 x))
theorem W0 {A L : List Int} {i : Nat} (h : A.length = L.length) (hi : i <= L.length) : (A.take i ++ L.drop i).length = L.length := by
 simp only [List.length_append, List.length_take, List.length_drop]; omega
theorem Hg {A L : List Int} {i k : Nat} (h : A.length = L.length) (hi : i <= L.length) : (A.take i ++ L.drop i).getD k 0 = if k < i then A.getD k 0 else L.getD k 0 := by
 have hl : (A.take i).length = i := by rw [List.length_take]; omega
 simp only [List.getD_eq_getElem?_getD]
 by_cases hk : k < i
 ·rw [if_pos hk, List.getElem?_append_left j2, List.getElem?_take, if_pos hk]
 ·rw [if_neg hk, List.getElem?_append_right j2, hl, List.getElem?_drop, show i + (k - i) = k by omega]
theorem ext0 {A B : List Int} (h : A.length = B.length) (hk : ∀ k, k < A.length -> A.getD k 0 = B.getD k 0) : A = B := by
 refine List.ext_getElem h fun k h1 h2 => ?_
 have := hk k h1
 simpa [List.getD, h1, h2] using this
theorem Zue {L : List Int} {i k : Nat} {v : Int} (hi : i < L.length) : (L.set i v).getD k 0 = if i = k then v else L.getD k 0 := by
 simp only [List.getD_eq_getElem?_getD, List.getElem?_set]
 split
 ·rename_i e; subst e; simp [hi]
 ·rfl
theorem Zfu {A L : List Int} {i : Nat} {v : Int} (h : A.length = L.length) (hi : i < L.length) (hv : v = A.getD i 0) : (A.take i ++ L.drop i).set i v = A.take (i + 1) ++ L.drop (i + 1) := by
 have h1 := W0 h (show i <= L.length by omega)
 have h2 := W0 h (show i + 1 <= L.length by omega)
 refine ext0 (by rw [List.length_set, h1, h2]) fun k hk => ?_
 rw [Zue j2, Hg h j2, Hg h j2]
 by_cases e : i = k
 ·subst e; rw [if_pos rfl, if_pos j2, hv]
 ·rw [if_neg e]
  by_cases e2 : k < i
  ·rw [if_pos e2, if_pos j2]
  ·rw [if_neg e2, if_neg j2]
theorem Znc {A L : List Int} {i : Nat} (h : A.length = L.length) (hi : i < L.length) (hv : A.getD i 0 = L.getD i 0) : A.take i ++ L.drop i = A.take (i + 1) ++ L.drop (i + 1) := by
 have h1 := W0 h (show i <= L.length by omega)
 have h2 := W0 h (show i + 1 <= L.length by omega)
 refine ext0 (by rw [h1, h2]) fun k hk => ?_
 rw [Hg h j2, Hg h j2]
 by_cases e : i = k
 ·subst e; rw [if_neg j2, if_pos j2, hv]
 ·by_cases e2 : k < i
  ·rw [if_pos e2, if_pos j2]
  ·rw [if_neg e2, if_neg j2]
theorem Zk5 {A L : List Int} (h : A.length = L.length) : A.take L.length ++ L.drop L.length = A := by
 rw [List.drop_length, List.append_nil, <- h, List.take_length]
def Ju (n : Nat) (L : List Int) : List Int := (List.range n).map fun i : Nat => (cnt (Zr L) (L.getD i 0).toNat : Int)
theorem Zg5 (n : Nat) (L : List Int) : (Ju n L).length = n := by simp [Ju]
theorem Zb4 {n : Nat} {L : List Int} {i : Nat} (h : i < n) : (Ju n L).getD i 0 = cnt (Zr L) (L.getD i 0).toNat := by simp [Ju, List.getD, h]
theorem Zqr {n : Nat} {L : List Int} (h : Zgv n L) : ∀ j, j < n -> Zej (Ju n L) j + 1 = cnt (Zr L) (j + 1)
 | 0, hj => by
  have h0 := h.2 0 hj
  have e : L.getD 0 0 = 0 := by omega
  rw [Zej, Zb4 hj, e]
  have : Zr L 0 = true := by unfold Zr; rw [e]; rfl
  simp [cnt, this]
 | j + 1, hj => by
  have ih := Zqr h j j2
  obtain ⟨h0, h1, h2⟩ := h.2 (j + 1) hj
  rw [Zej, Zb4 hj, cnt]
  by_cases hr : L.getD (j + 1) 0 = ((j + 1 : Nat) : Int)
  ·have : Zr L (j + 1) = true := by unfold Zr; rw [hr]; simp
   rw [this, hr, Int.toNat_natCast]
   simp
   omega
  ·have : Zr L (j + 1) = false := by unfold Zr; simpa using hr
   rw [this]
   have := Qy (Zr L) (a := (L.getD (j + 1) 0).toNat) (b := j + 1) j2 (by unfold Zr; rw [h2, beq_iff_eq]; omega)
   show max (Zej (Ju n L) j) (cnt (Zr L) (L.getD (j + 1) 0).toNat : Int) + 1 = ((cnt (Zr L) (j + 1) + 0 : Nat) : Int)
   omega
theorem Zuf (n : Nat) (E : List (List Int)) (hn : n <= 40) (hE : E.length <= 2000000) (hg : Z0 n E) : Zj Tryz.prog 140 [aI n, aLL E] [rL (Ju n (Xd n E E.length))] [] := by
 refine cA_ _ Tryz.func140 rfl Tryz.ntmps140 sO_ ?_
 have hil := K8 n
 repeat' (first | (refine w2_ ?_ ?_ <;> intro _) | refine a1_ ?_|fail)
 refine WpA.loop_slots2 (fun j id => [(1, .c (.sl false 1 (LLs E))), (5, .own id (.sl true 1 (Ze ((X5 n).take j ++ List.replicate (n - j) 0)))), (17, vGI n), (18, vGI j)]) (fun j => j <= n) (fun j => n - j) 0 _ j2 ⟨rfl, by exact Zq (by simp), Zb (by simp), rfl, trivial⟩ ?_
 intro j id s nx hj
 have hll : ((X5 n).take j ++ List.replicate (n - j) 0).length = n := by
  simp only [List.length_append, List.length_take, List.length_replicate]; omega
 by_cases hlt : j < n
 ·have e1 : ((X5 n).take j ++ List.replicate (n - j) 0).set (j * 1) (j : Int) = (X5 n).take (j + 1) ++ List.replicate (n - (j + 1)) 0 := by
   have := Zjl (X5 n) j j2
   rw [H2 hlt, hil] at this
   rw [Nat.mul_one]; exact this
  generalize (X5 n).take j ++ List.replicate (n - j) 0 = A at *
  repeat' (first | (refine w2_ ?_ ?_ <;> intro _) | refine a1_ ?_|fail)
  all_goals try (exfalso; omega)
  exact ⟨j + 1, by omega, ⟨_, rfl, by exact Zq e1, rfl, Zb j2, trivial⟩, by omega⟩
 ·have e0 : j = n := by omega
  have e1 : (X5 n).take j ++ List.replicate (n - j) 0 = Xd n E 0 := by
   rw [e0, Nat.sub_self, List.replicate_zero, List.append_nil, List.take_of_length_le j2]; rfl
  rw [e1]
  repeat' (first | (refine w2_ ?_ ?_ <;> intro _) | refine a1_ ?_|fail)
  all_goals try (exfalso; omega)
  refine WpA.loop_slots2 (fun j id => [(1, .c (.sl false 1 (LLs E))), (5, .own id (.sl true 1 (Ze (Xd n E j)))), (26, .c (.sl false 1 (LLs E))), (27, vGI E.length), (28, vGI j)]) (fun j => j <= E.length) (fun j => E.length - j) 0 _ j2 ⟨rfl, xR_, rfl, rfl, rfl, trivial⟩ ?_
  intro j id s nx hj
  have hl := Q9 n E j
  by_cases hlt : j < E.length
  ·have g := hg j hlt
   have r0 : (E.getD (j * 1) []).getD (0 * 1) 0 = ea E j := by rw [Nat.mul_one]; rfl
   have r1 : (E.getD (j * 1) []).getD (1 * 1) 0 = eb E j := by rw [Nat.mul_one]; rfl
   have r2 : (E.getD (j * 1) []).length = 2 := by rw [Nat.mul_one]; exact g.1
   have g1 := g.2.1
   rw [<- r0, <- r1] at g1
   have p1 : min ((Xd n E j).getD (((E.getD (j * 1) []).getD (0 * 1) 0).toNat * 1) 0) ((Xd n E j).getD (((E.getD (j * 1) []).getD (1 * 1) 0).toNat * 1) 0) = min ((Xd n E j).getD (ea E j).toNat 0) ((Xd n E j).getD (eb E j).toNat 0) := by rw [r0, r1, Nat.mul_one, Nat.mul_one]
   have p2 : max ((Xd n E j).getD (((E.getD (j * 1) []).getD (0 * 1) 0).toNat * 1) 0) ((Xd n E j).getD (((E.getD (j * 1) []).getD (1 * 1) 0).toNat * 1) 0) = max ((Xd n E j).getD (ea E j).toNat 0) ((Xd n E j).getD (eb E j).toNat 0) := by rw [r0, r1, Nat.mul_one, Nat.mul_one]
   have hnext : Xd n E (j + 1) = mrg (min ((Xd n E j).getD (ea E j).toNat 0) ((Xd n E j).getD (eb E j).toNat 0)) (max ((Xd n E j).getD (ea E j).toNat 0) ((Xd n E j).getD (eb E j).toNat 0)) (Xd n E j) := rfl
   rw [<- p1, <- p2] at hnext
   have hl2 := Q9 n E (j + 1)
   generalize hL : Xd n E j = L at *
   repeat' (first | (refine w2_ ?_ ?_ <;> intro _) | refine a1_ ?_|fail)
   all_goals try (exfalso; omega)
   generalize hp : min (L.getD (((E.getD (j * 1) []).getD (0 * 1) 0).toNat * 1) 0) (L.getD (((E.getD (j * 1) []).getD (1 * 1) 0).toNat * 1) 0) = p at *
   generalize hq : max (L.getD (((E.getD (j * 1) []).getD (0 * 1) 0).toNat * 1) 0) (L.getD (((E.getD (j * 1) []).getD (1 * 1) 0).toNat * 1) 0) = q at *
   generalize hM : Xd n E (j + 1) = M at *
   refine WpA.loop_slots2 (fun i id => [(1, .c (.sl false 1 (LLs E))), (5, .own id (.sl true 1 (Ze (M.take i ++ L.drop i)))), (9, vGI p), (10, vGI q), (26, .c (.sl false 1 (LLs E))), (27, vGI E.length), (28, vGI j), (59, vGI n), (60, vGI i)]) (fun i => i <= n) (fun i => n - i) 0 _ j2 ⟨rfl, by exact Zq (by simp), rfl, rfl, rfl, rfl, rfl, Zb j2, rfl, trivial⟩ ?_
   intro i id s nx hi
   have c1 := W0 (A := M) (L := L) (i := i) j2 j2
   by_cases hlti : i < n
   ·have c2 : (M.take i ++ L.drop i).getD (i * 1) 0 = L.getD i 0 := by rw [Nat.mul_one, Hg j2 j2, if_neg j2]
    have m1 : M.getD i 0 = if L.getD i 0 = q then p else L.getD i 0 := by rw [hnext]; exact Zgu j2
    by_cases hiq : L.getD i 0 = q
    ·rw [if_pos hiq] at m1
     have c3 : (M.take i ++ L.drop i).set (i * 1) p = M.take (i + 1) ++ L.drop (i + 1) := by rw [Nat.mul_one]; exact Zfu j2 j2 m1.symm
     generalize M.take i ++ L.drop i = B at *
     repeat' (first | (refine w2_ ?_ ?_ <;> intro _) | refine a1_ ?_|fail)
     all_goals try (exfalso; omega)
     exact ⟨i + 1, by omega, ⟨_, rfl, by exact Zq c3, rfl, rfl, rfl, rfl, rfl, rfl, Zb j2, trivial⟩, by omega⟩
    ·rw [if_neg hiq] at m1
     have c3 : M.take i ++ L.drop i = M.take (i + 1) ++ L.drop (i + 1) := Znc j2 j2 m1
     generalize M.take i ++ L.drop i = B at *
     repeat' (first | (refine w2_ ?_ ?_ <;> intro _) | refine a1_ ?_|fail)
     all_goals try (exfalso; omega)
     exact ⟨i + 1, by omega, ⟨_, rfl, by exact Zq c3, rfl, rfl, rfl, rfl, rfl, rfl, Zb j2, trivial⟩, by omega⟩
   ·have ei : i = L.length := by omega
    have c3 : M.take i ++ L.drop i = M := by rw [ei]; exact Zk5 j2
    rw [c3]
    repeat' (first | (refine w2_ ?_ ?_ <;> intro _) | refine a1_ ?_|fail)
    all_goals try (exfalso; omega)
    exact ⟨j + 1, by omega, ⟨_, rfl, by exact Zq hM.symm, rfl, rfl, Zb j2, trivial⟩, by omega⟩
  ·have ej : j = E.length := by omega
   rw [ej] at hl ⊢
   obtain ⟨hr, _⟩ := Qh E.length hg
   generalize Xd n E E.length = L at *
   repeat' (first | (refine w2_ ?_ ?_ <;> intro _) | refine a1_ ?_|fail)
   all_goals try (exfalso; omega)
   have hfl := Zg5 n L
   refine WpA.loop_slots2 (fun i id => [(5, .own id (.sl true 1 (Ze ((Ju n L).take i ++ L.drop i)))), (12, vGI (cnt (Zr L) i)), (76, vGI n), (77, vGI i)]) (fun i => i <= n) (fun i => n - i) 0 _ j2 ⟨by exact Zq (by simp), Zb (by simp [cnt]), Zb j2, rfl, trivial⟩ ?_
   intro i id s nx hi
   have c1 := W0 (A := Ju n L) (L := L) (i := i) j2 j2
   by_cases hlti : i < n
   ·obtain ⟨h0, h1, h2⟩ := hr.2 i hlti
    have k1 := Za5 (Zr L) i
    have c2 : ((Ju n L).take i ++ L.drop i).getD (i * 1) 0 = L.getD i 0 := by rw [Nat.mul_one, Hg j2 j2, if_neg j2]
    have f1 := Zb4 (L := L) hlti
    by_cases hroot : L.getD i 0 = i
    ·rw [hroot, Int.toNat_natCast] at f1
     have c3 : ((Ju n L).take i ++ L.drop i).set (i * 1) (cnt (Zr L) i : Int) = (Ju n L).take (i + 1) ++ L.drop (i + 1) := by rw [Nat.mul_one]; exact Zfu j2 j2 f1.symm
     have k2 : ((cnt (Zr L) i : Int) + 1) = (cnt (Zr L) (i + 1) : Nat) := by
      rw [cnt, show Zr L i = true by unfold Zr; rw [hroot]; simp]; rfl
     generalize (Ju n L).take i ++ L.drop i = B at *
     repeat' (first | (refine w2_ ?_ ?_ <;> intro _) | refine a1_ ?_|fail)
     all_goals try (exfalso; omega)
     exact ⟨i + 1, by omega, ⟨_, by exact Zq c3, Zb k2, rfl, Zb j2, trivial⟩, by omega⟩
    ·have c4 : ((Ju n L).take i ++ L.drop i).getD ((L.getD i 0).toNat * 1) 0 = (Ju n L).getD i 0 := by
      rw [Nat.mul_one, Hg j2 j2, if_pos j2, Zb4 j2, f1, h2]
     have c3 : ((Ju n L).take i ++ L.drop i).set (i * 1) ((Ju n L).getD i 0) = (Ju n L).take (i + 1) ++ L.drop (i + 1) := by rw [Nat.mul_one]; exact Zfu j2 j2 rfl
     have k2 : cnt (Zr L) (i + 1) = cnt (Zr L) i := by
      rw [cnt, show Zr L i = false by unfold Zr; simpa using hroot]; rfl
     rw [<- c4, <- c2] at c3
     generalize (Ju n L).take i ++ L.drop i = B at *
     repeat' (first | (refine w2_ ?_ ?_ <;> intro _) | refine a1_ ?_|fail)
     all_goals try (exfalso; omega)
     exact ⟨i + 1, by omega, ⟨_, by exact Zq c3, Zb (by rw [k2]), rfl, Zb j2, trivial⟩, by omega⟩
   ·have ei : i = L.length := by omega
    have c3 : (Ju n L).take i ++ L.drop i = Ju n L := by rw [ei]; exact Zk5 j2
    rw [c3]
    repeat' (first | (refine w2_ ?_ ?_ <;> intro _) | refine a1_ ?_|fail)
    all_goals try (exfalso; omega)
    all_goals rfl
attribute [local irreducible] Zp decIsGr Z0 Vt Acy Jj
abbrev aGr (w : List Int) (E : List (List Int)) : Arg := .sh (.agg [.sl false 1 (Ze w), .sl false 1 (LLs E)])
theorem Jg (w : List Int) (E : List (List Int)) (hw : w.length <= 2000000) (hE : E.length <= 2000000) : Zj Tryz.prog 81 [aGr w E] [rB (decide (Zp w E))] [] := by
  refine cA_ _ Tryz.func81 rfl Tryz.ntmps81 j6 ?_
  have hwi := Zud w (-1000) 1000 j2
  have hdef := Zm2 w E
  by_cases hn : 1 <= w.length /\ w.length <= 40
  · by_cases hwt : Yz w (-1000) 1000
    · by_cases hlt : E.length < w.length
      · repeat' (first | (guard_target =~ WpA _ _ _ _ _ _; first | refine WpA.seq ?_ | refine WpA.drawU ?_ | refine WpA.regionU ?_ | refine WpA.block ?_ | refine WpA.ret ?_ | refine WpA.skip ?_ | refine WpA.exit ?_ | refine WpA.cond_true rfl ?_ | refine WpA.cond_false rfl ?_ | refine WpA.cond_ntrue rfl ?_ | refine WpA.cond_dec rfl (fun _ => ?_) (fun _ => ?_) | refine WpA.cond_not rfl (fun _ => ?_) (fun _ => ?_) | refine WpA.cond rfl (fun _ => ?_) (fun _ => ?_)) | (guard_target =~ Za _ _ _ _ [] _ _ _ _; first | refine Za.nilL ?_ | refine Za.nilD (by kernel_rfl) ?_) | (guard_target =~ Za _ _ _ _ (Oper.mk _ (Op.call ⟨Callee.value _, _, _⟩) _ _ _ none :: _) _ _ _ _; first | refine Za.cons (sC_ (hwi) (.sh (.sh (.sh .nil))) (.sh wS_ (.sh wS_ (.sh wS_ .nil))) rfl) ?_) | (guard_target =~ Za _ _ _ _ (Oper.mk _ _ _ _ _ none :: _) _ _ _ _; refine Za.cons Zc ?_) | (guard_target =~ Za _ _ _ _ (Oper.mk _ _ _ _ _ (some _) :: _) _ _ _ _; first | refine Za.pass rfl rfl rfl rfl ?_ | refine Za.pass_undef rfl rfl rfl ?_ | (guard_target =~ Za _ _ _ _ (Oper.mk _ (Op.call ⟨Callee.value _, _, _⟩) _ _ _ _ :: _) _ _ _ _; first | refine Za.doit rfl rfl (sC_ (hwi) (.sh (.sh (.sh .nil))) (.sh wS_ (.sh wS_ (.sh wS_ .nil))) rfl) ?_) | refine Za.doit rfl rfl Zc ?_ | ((fail_if_success (refine Za.doit (rd := []) (up := []) rfl rfl ?_ ?_)); first | refine Za.guard_dec rfl rfl (fun _ => ?_) (fun _ => ?_) | refine Za.guard_not rfl rfl (fun _ => ?_) (fun _ => ?_) | refine Za.guard rfl rfl (fun _ => ?_) (fun _ => ?_))) | ((fail_if_success (guard_target =~ @Eq _ _ _)); (fail_if_success (guard_target =~ @Exists _ _)); first | (guard_target =~ Z8 _ _ _ _ _; refine Z8.next ?_) | (guard_target =~ Zk _ _ _ _ _; refine Zk.next ?_) | refine d1_ ?_)|fail)
        all_goals try (exfalso; omega)
        all_goals try (exact absurd hwt (by with_reducible assumption))
        refine WpA.loop_slots (ι := Nat) (fun j => [(1, .own 1 (.pt true [.sl false 1 (Ze w), .sl false 1 (LLs E)])), (3, vGI w.length), (30, .c (.sl false 1 (LLs E))), (31, vGI E.length), (32, vGI j)]) (fun j => j <= E.length /\ ∀ i, i < j -> Vt w.length E i) (fun j => E.length - j) 0 ⟨by omega, fun i hi => absurd hi j2⟩ ⟨rfl, rfl, rfl, rfl, rfl, trivial⟩ ?_
        intro j s nx hj
        by_cases hje : j < E.length
        · have r0 : (E.getD (j * 1) []).getD (0 * 1) 0 = ea E j := by rw [Nat.mul_one]; rfl
          have r1 : (E.getD (j * 1) []).getD (1 * 1) 0 = eb E j := by rw [Nat.mul_one]; rfl
          have r2 : (E.getD (j * 1) []).length = (E.getD j []).length := by rw [Nat.mul_one]
          have hbad : ¬ Vt w.length E j -> ¬ Zp w E := fun h1 h2 => h1 (Zbx.1 (hdef.1 h2).2.2.1 j hje)
          have hgd := Wv (n := w.length) (E := E) (j := j)
          rw [<- r0, <- r1] at hgd
          have fin : ¬ Vt w.length E j -> [rB false] = [rB (decide (Zp w E))] := fun h => by rw [decide_eq_false (hbad h)]
          by_cases hj0 : 0 < j
          · have l1 : (E.getD (((j : Int) - 1).toNat * 1) []).length = 2 := by
              have := (Wv.1 (hj.2 (j - 1) j2)).1
              rw [show ((j : Int) - 1).toNat * 1 = j - 1 by omega]; exact this
            have l2 : E.getD (((j : Int) - 1).toNat * 1) [] = E.getD (j - 1) [] := by rw [show ((j : Int) - 1).toNat * 1 = j - 1 by omega]
            have l4 : Vs (E.getD (((j : Int) - 1).toNat * 1) []) (E.getD (j * 1) []) = Vs (E.getD (j - 1) []) (E.getD j []) := by rw [l2, Nat.mul_one]
            repeat' (first | (guard_target =~ WpA _ _ _ _ _ _; first | refine WpA.seq ?_ | refine WpA.drawU ?_ | refine WpA.regionU ?_ | refine WpA.block ?_ | refine WpA.ret ?_ | refine WpA.skip ?_ | refine WpA.exit ?_ | refine WpA.cond_true rfl ?_ | refine WpA.cond_false rfl ?_ | refine WpA.cond_ntrue rfl ?_ | refine WpA.cond_dec rfl (fun _ => ?_) (fun _ => ?_) | refine WpA.cond_not rfl (fun _ => ?_) (fun _ => ?_) | refine WpA.cond rfl (fun _ => ?_) (fun _ => ?_)) | (guard_target =~ Za _ _ _ _ [] _ _ _ _; first | refine Za.nilL ?_ | refine Za.nilD (by kernel_rfl) ?_) | (guard_target =~ Za _ _ _ _ (Oper.mk _ (Op.call ⟨Callee.value _, _, _⟩) _ _ _ none :: _) _ _ _ _; first | refine Za.cons (sC_ (Zjs (E.getD (((j : Int) - 1).toNat * 1) []) (E.getD (j * 1) []) j2 j2) (.sh (.sh .nil)) (.sh wS_ (.sh wS_ .nil)) rfl) ?_) | (guard_target =~ Za _ _ _ _ (Oper.mk _ _ _ _ _ none :: _) _ _ _ _; refine Za.cons Zc ?_) | (guard_target =~ Za _ _ _ _ (Oper.mk _ _ _ _ _ (some _) :: _) _ _ _ _; first | refine Za.pass rfl rfl rfl rfl ?_ | refine Za.pass_undef rfl rfl rfl ?_ | (guard_target =~ Za _ _ _ _ (Oper.mk _ (Op.call ⟨Callee.value _, _, _⟩) _ _ _ _ :: _) _ _ _ _; first | refine Za.doit rfl rfl (sC_ (Zjs (E.getD (((j : Int) - 1).toNat * 1) []) (E.getD (j * 1) []) j2 j2) (.sh (.sh .nil)) (.sh wS_ (.sh wS_ .nil)) rfl) ?_) | refine Za.doit rfl rfl Zc ?_ | ((fail_if_success (refine Za.doit (rd := []) (up := []) rfl rfl ?_ ?_)); first | refine Za.guard_dec rfl rfl (fun _ => ?_) (fun _ => ?_) | refine Za.guard_not rfl rfl (fun _ => ?_) (fun _ => ?_) | refine Za.guard rfl rfl (fun _ => ?_) (fun _ => ?_))) | ((fail_if_success (guard_target =~ @Eq _ _ _)); (fail_if_success (guard_target =~ @Exists _ _)); first | (guard_target =~ Z8 _ _ _ _ _; refine Z8.next ?_) | (guard_target =~ Zk _ _ _ _ _; refine Zk.next ?_) | refine d1_ ?_)|fail)
            all_goals try (exfalso; omega)
            all_goals first
              | (refine fin fun g => ?_
                 have g1 := hgd.1 g
                 have g2 := g1.2.2 hj0
                 omega)
              | (exact ⟨j + 1, ⟨by omega, fun i hi => by
                rcases Nat.lt_or_ge i j with k | k
                · exact hj.2 i k
                · rw [Nat.le_antisymm (Nat.le_of_lt_succ hi) k]; exact hgd.2 ⟨by omega, by omega, fun _ => by omega⟩⟩, ⟨rfl, rfl, rfl, rfl, Zb j2, trivial⟩, by omega⟩)
          · obtain rfl : j = 0 := by omega
            repeat' (first | (guard_target =~ WpA _ _ _ _ _ _; first | refine WpA.seq ?_ | refine WpA.drawU ?_ | refine WpA.regionU ?_ | refine WpA.block ?_ | refine WpA.ret ?_ | refine WpA.skip ?_ | refine WpA.exit ?_ | refine WpA.cond_true rfl ?_ | refine WpA.cond_false rfl ?_ | refine WpA.cond_ntrue rfl ?_ | refine WpA.cond_dec rfl (fun _ => ?_) (fun _ => ?_) | refine WpA.cond_not rfl (fun _ => ?_) (fun _ => ?_) | refine WpA.cond rfl (fun _ => ?_) (fun _ => ?_)) | (guard_target =~ Za _ _ _ _ [] _ _ _ _; first | refine Za.nilL ?_ | refine Za.nilD (by kernel_rfl) ?_) | (guard_target =~ Za _ _ _ _ (Oper.mk _ _ _ _ _ none :: _) _ _ _ _; refine Za.cons Zc ?_) | (guard_target =~ Za _ _ _ _ (Oper.mk _ _ _ _ _ (some _) :: _) _ _ _ _; first | refine Za.pass rfl rfl rfl rfl ?_ | refine Za.pass_undef rfl rfl rfl ?_ | refine Za.doit rfl rfl Zc ?_ | ((fail_if_success (refine Za.doit (rd := []) (up := []) rfl rfl ?_ ?_)); first | refine Za.guard_dec rfl rfl (fun _ => ?_) (fun _ => ?_) | refine Za.guard_not rfl rfl (fun _ => ?_) (fun _ => ?_) | refine Za.guard rfl rfl (fun _ => ?_) (fun _ => ?_))) | ((fail_if_success (guard_target =~ @Eq _ _ _)); (fail_if_success (guard_target =~ @Exists _ _)); first | (guard_target =~ Z8 _ _ _ _ _; refine Z8.next ?_) | (guard_target =~ Zk _ _ _ _ _; refine Zk.next ?_) | refine d1_ ?_)|fail)
            all_goals try (exfalso; omega)
            all_goals first
              | (refine fin fun g => ?_
                 have g1 := hgd.1 g
                 omega)
              | (exact ⟨0 + 1, ⟨by omega, fun i hi => by
                rcases Nat.lt_or_ge i 0 with k | k
                · exact hj.2 i k
                · rw [Nat.le_antisymm (Nat.le_of_lt_succ hi) k]; exact hgd.2 ⟨by omega, by omega, fun q => absurd q j2⟩⟩, ⟨rfl, rfl, rfl, rfl, Zb j2, trivial⟩, by omega⟩)
        · have ej : j = E.length := by omega
          have hg : Z0 w.length E := Zbx.2 fun i hi => hj.2 i j2
          have hla := Zuf w.length E hn.2 hE hg
          have hro := (Qh E.length (fun i hi => hj.2 i j2)).1
          have hmf := Zqr hro (w.length - 1) j2
          have hac := Zqp hg
          have hfl := Zg5 w.length (Xd w.length E E.length)
          have hcl := Za5 (Zr (Xd w.length E E.length)) w.length
          rw [show w.length - 1 + 1 = w.length by omega] at hmf
          have hfin : Zp w E ↔ cnt (Zr (Xd w.length E E.length)) w.length + E.length = w.length := by
            rw [hac, hdef]
            exact ⟨fun q => q.2.2.2, fun q => ⟨hn, hwt, hg, q⟩⟩
          have hmx := Xbk (Ju w.length (Xd w.length E E.length)) j2 j2
          rw [hfl] at hmx
          generalize Zej (Ju w.length (Xd w.length E E.length)) (w.length - 1) = m at *
          generalize Ju w.length (Xd w.length E E.length) = F at *
          generalize cnt (Zr (Xd w.length E E.length)) w.length = c at *
          repeat' (first | (guard_target =~ WpA _ _ _ _ _ _; first | refine WpA.seq ?_ | refine WpA.drawU ?_ | refine WpA.regionU ?_ | refine WpA.block ?_ | refine WpA.ret ?_ | refine WpA.skip ?_ | refine WpA.exit ?_ | refine WpA.cond_true rfl ?_ | refine WpA.cond_false rfl ?_ | refine WpA.cond_ntrue rfl ?_ | refine WpA.cond_dec rfl (fun _ => ?_) (fun _ => ?_) | refine WpA.cond_not rfl (fun _ => ?_) (fun _ => ?_) | refine WpA.cond rfl (fun _ => ?_) (fun _ => ?_)) | (guard_target =~ Za _ _ _ _ [] _ _ _ _; first | refine Za.nilL ?_ | refine Za.nilD (by kernel_rfl) ?_) | (guard_target =~ Za _ _ _ _ (Oper.mk _ (Op.call ⟨Callee.value _, _, _⟩) _ _ _ none :: _) _ _ _ _; first | refine Za.cons (sC_ (hla) (.sh (.sh .nil)) (.sh wS_ (.sh wS_ .nil)) rfl) ?_ | refine Za.cons (sC_ (hmx) (.sh .nil) (.sh wS_ .nil) rfl) ?_) | (guard_target =~ Za _ _ _ _ (Oper.mk _ _ _ _ _ none :: _) _ _ _ _; refine Za.cons Zc ?_) | (guard_target =~ Za _ _ _ _ (Oper.mk _ _ _ _ _ (some _) :: _) _ _ _ _; first | refine Za.pass rfl rfl rfl rfl ?_ | refine Za.pass_undef rfl rfl rfl ?_ | (guard_target =~ Za _ _ _ _ (Oper.mk _ (Op.call ⟨Callee.value _, _, _⟩) _ _ _ _ :: _) _ _ _ _; first | refine Za.doit rfl rfl (sC_ (hla) (.sh (.sh .nil)) (.sh wS_ (.sh wS_ .nil)) rfl) ?_ | refine Za.doit rfl rfl (sC_ (hmx) (.sh .nil) (.sh wS_ .nil) rfl) ?_) | refine Za.doit rfl rfl Zc ?_ | ((fail_if_success (refine Za.doit (rd := []) (up := []) rfl rfl ?_ ?_)); first | refine Za.guard_dec rfl rfl (fun _ => ?_) (fun _ => ?_) | refine Za.guard_not rfl rfl (fun _ => ?_) (fun _ => ?_) | refine Za.guard rfl rfl (fun _ => ?_) (fun _ => ?_))) | ((fail_if_success (guard_target =~ @Eq _ _ _)); (fail_if_success (guard_target =~ @Exists _ _)); first | (guard_target =~ Z8 _ _ _ _ _; refine Z8.next ?_) | (guard_target =~ Zk _ _ _ _ _; refine Zk.next ?_) | refine d1_ ?_)|fail)
          all_goals try (exfalso; omega)
          refine congrArg (fun b => [rB b]) (decide_eq_decide.2 ?_)
          rw [hfin]
          omega
      · have hno : ¬ Zp w E := fun h => hlt h.few
        repeat' (first | (guard_target =~ WpA _ _ _ _ _ _; first | refine WpA.seq ?_ | refine WpA.drawU ?_ | refine WpA.regionU ?_ | refine WpA.block ?_ | refine WpA.ret ?_ | refine WpA.skip ?_ | refine WpA.exit ?_ | refine WpA.cond_true rfl ?_ | refine WpA.cond_false rfl ?_ | refine WpA.cond_ntrue rfl ?_ | refine WpA.cond_dec rfl (fun _ => ?_) (fun _ => ?_) | refine WpA.cond_not rfl (fun _ => ?_) (fun _ => ?_) | refine WpA.cond rfl (fun _ => ?_) (fun _ => ?_)) | (guard_target =~ Za _ _ _ _ [] _ _ _ _; first | refine Za.nilL ?_ | refine Za.nilD (by kernel_rfl) ?_) | (guard_target =~ Za _ _ _ _ (Oper.mk _ (Op.call ⟨Callee.value _, _, _⟩) _ _ _ none :: _) _ _ _ _; first | refine Za.cons (sC_ (hwi) (.sh (.sh (.sh .nil))) (.sh wS_ (.sh wS_ (.sh wS_ .nil))) rfl) ?_) | (guard_target =~ Za _ _ _ _ (Oper.mk _ _ _ _ _ none :: _) _ _ _ _; refine Za.cons Zc ?_) | (guard_target =~ Za _ _ _ _ (Oper.mk _ _ _ _ _ (some _) :: _) _ _ _ _; first | refine Za.pass rfl rfl rfl rfl ?_ | refine Za.pass_undef rfl rfl rfl ?_ | (guard_target =~ Za _ _ _ _ (Oper.mk _ (Op.call ⟨Callee.value _, _, _⟩) _ _ _ _ :: _) _ _ _ _; first | refine Za.doit rfl rfl (sC_ (hwi) (.sh (.sh (.sh .nil))) (.sh wS_ (.sh wS_ (.sh wS_ .nil))) rfl) ?_) | refine Za.doit rfl rfl Zc ?_ | ((fail_if_success (refine Za.doit (rd := []) (up := []) rfl rfl ?_ ?_)); first | refine Za.guard_dec rfl rfl (fun _ => ?_) (fun _ => ?_) | refine Za.guard_not rfl rfl (fun _ => ?_) (fun _ => ?_) | refine Za.guard rfl rfl (fun _ => ?_) (fun _ => ?_))) | ((fail_if_success (guard_target =~ @Eq _ _ _)); (fail_if_success (guard_target =~ @Exists _ _)); first | (guard_target =~ Z8 _ _ _ _ _; refine Z8.next ?_) | (guard_target =~ Zk _ _ _ _ _; refine Zk.next ?_) | refine d1_ ?_)|fail)
        all_goals try (exfalso; omega)
        all_goals try (exact absurd hwt (by with_reducible assumption))
        all_goals rw [decide_eq_false hno]
    · have hno : ¬ Zp w E := fun h => hwt (hdef.1 h).2.1
      repeat' (first | (guard_target =~ WpA _ _ _ _ _ _; first | refine WpA.seq ?_ | refine WpA.drawU ?_ | refine WpA.regionU ?_ | refine WpA.block ?_ | refine WpA.ret ?_ | refine WpA.skip ?_ | refine WpA.exit ?_ | refine WpA.cond_true rfl ?_ | refine WpA.cond_false rfl ?_ | refine WpA.cond_ntrue rfl ?_ | refine WpA.cond_dec rfl (fun _ => ?_) (fun _ => ?_) | refine WpA.cond_not rfl (fun _ => ?_) (fun _ => ?_) | refine WpA.cond rfl (fun _ => ?_) (fun _ => ?_)) | (guard_target =~ Za _ _ _ _ [] _ _ _ _; first | refine Za.nilL ?_ | refine Za.nilD (by kernel_rfl) ?_) | (guard_target =~ Za _ _ _ _ (Oper.mk _ (Op.call ⟨Callee.value _, _, _⟩) _ _ _ none :: _) _ _ _ _; first | refine Za.cons (sC_ (hwi) (.sh (.sh (.sh .nil))) (.sh wS_ (.sh wS_ (.sh wS_ .nil))) rfl) ?_) | (guard_target =~ Za _ _ _ _ (Oper.mk _ _ _ _ _ none :: _) _ _ _ _; refine Za.cons Zc ?_) | (guard_target =~ Za _ _ _ _ (Oper.mk _ _ _ _ _ (some _) :: _) _ _ _ _; first | refine Za.pass rfl rfl rfl rfl ?_ | refine Za.pass_undef rfl rfl rfl ?_ | (guard_target =~ Za _ _ _ _ (Oper.mk _ (Op.call ⟨Callee.value _, _, _⟩) _ _ _ _ :: _) _ _ _ _; first | refine Za.doit rfl rfl (sC_ (hwi) (.sh (.sh (.sh .nil))) (.sh wS_ (.sh wS_ (.sh wS_ .nil))) rfl) ?_) | refine Za.doit rfl rfl Zc ?_ | ((fail_if_success (refine Za.doit (rd := []) (up := []) rfl rfl ?_ ?_)); first | refine Za.guard_dec rfl rfl (fun _ => ?_) (fun _ => ?_) | refine Za.guard_not rfl rfl (fun _ => ?_) (fun _ => ?_) | refine Za.guard rfl rfl (fun _ => ?_) (fun _ => ?_))) | ((fail_if_success (guard_target =~ @Eq _ _ _)); (fail_if_success (guard_target =~ @Exists _ _)); first | (guard_target =~ Z8 _ _ _ _ _; refine Z8.next ?_) | (guard_target =~ Zk _ _ _ _ _; refine Zk.next ?_) | refine d1_ ?_)|fail)
      all_goals try (exfalso; omega)
      all_goals try (exact absurd ‹_› hwt)
      all_goals rw [decide_eq_false hno]
  · have hno : ¬ Zp w E := fun h => hn (hdef.1 h).1
    repeat' (first | (guard_target =~ WpA _ _ _ _ _ _; first | refine WpA.seq ?_ | refine WpA.drawU ?_ | refine WpA.regionU ?_ | refine WpA.block ?_ | refine WpA.ret ?_ | refine WpA.skip ?_ | refine WpA.exit ?_ | refine WpA.cond_true rfl ?_ | refine WpA.cond_false rfl ?_ | refine WpA.cond_ntrue rfl ?_ | refine WpA.cond_dec rfl (fun _ => ?_) (fun _ => ?_) | refine WpA.cond_not rfl (fun _ => ?_) (fun _ => ?_) | refine WpA.cond rfl (fun _ => ?_) (fun _ => ?_)) | (guard_target =~ Za _ _ _ _ [] _ _ _ _; first | refine Za.nilL ?_ | refine Za.nilD (by kernel_rfl) ?_) | (guard_target =~ Za _ _ _ _ (Oper.mk _ _ _ _ _ none :: _) _ _ _ _; refine Za.cons Zc ?_) | (guard_target =~ Za _ _ _ _ (Oper.mk _ _ _ _ _ (some _) :: _) _ _ _ _; first | refine Za.pass rfl rfl rfl rfl ?_ | refine Za.pass_undef rfl rfl rfl ?_ | refine Za.doit rfl rfl Zc ?_ | ((fail_if_success (refine Za.doit (rd := []) (up := []) rfl rfl ?_ ?_)); first | refine Za.guard_dec rfl rfl (fun _ => ?_) (fun _ => ?_) | refine Za.guard_not rfl rfl (fun _ => ?_) (fun _ => ?_) | refine Za.guard rfl rfl (fun _ => ?_) (fun _ => ?_))) | ((fail_if_success (guard_target =~ @Eq _ _ _)); (fail_if_success (guard_target =~ @Exists _ _)); first | (guard_target =~ Z8 _ _ _ _ _; refine Z8.next ?_) | (guard_target =~ Zk _ _ _ _ _; refine Zk.next ?_) | refine d1_ ?_)|fail)
    all_goals try (exfalso; omega)
    all_goals rw [decide_eq_false hno]
end Go.Proofs.YtmgmpnhlehonmaaGreat
namespace Go.Proofs.YtmgmpnhlehonmaaGreat
set_option maxHeartbeats 20000000
open Go.Pv
open Go.ChangeShapes Go.WideShapes Go.ChangeAt Go.RowKit
attribute [local irreducible] Za WpA Zg Xf Zz Z6 Zd
instance fnOk71 : Zs Tryz.prog 71 := ⟨_, Tryz.func71, rfl, by decide⟩
def J3 (E : List (List Int)) (v : Int) : Nat -> List Int
 | 0 => []
 | j + 1 => if eb E j = v then J3 E v j ++ [ea E j] else J3 E v j
def Jv (E : List (List Int)) (v : Int) : Nat -> List Int
 | 0 => []
 | j + 1 => if ea E j = v then Jv E v j ++ [eb E j] else Jv E v j
def Zf (E : List (List Int)) (v : Int) : List Int := J3 E v E.length ++ Jv E v E.length
theorem Znd (E : List (List Int)) (v : Int) : ∀ j, (J3 E v j).length <= j
 | 0 => Nat.le_refl _
 | j + 1 => by
  have := Znd E v j
  rw [J3]
  split
  ·rw [List.length_append, List.length_singleton]; omega
  ·omega
theorem Zne (E : List (List Int)) (v : Int) : ∀ j, (Jv E v j).length <= j
 | 0 => Nat.le_refl _
 | j + 1 => by
  have := Zne E v j
  rw [Jv]
  split
  ·rw [List.length_append, List.length_singleton]; omega
  ·omega
theorem Zdm (w : List Int) (E : List (List Int)) (v : Int) (hE : E.length <= 1000000) (h2 : ∀ j, j < E.length -> (E.getD j []).length = 2) : Zj Tryz.prog 71 [aGr w E, aI v] [rL (Zf E v)] [] := by
 refine cA_ _ Tryz.func71 rfl Tryz.ntmps71 sO_ ?_
 repeat' (first | (refine w2_ ?_ ?_ <;> intro _) | refine a1_ ?_|fail)
 refine WpA.loop_slots2 (fun j id => [(1, vGI v), (2, .own 2 (.pt true [.sl false 1 (Ze w), .sl false 1 (LLs E)])), (5, .own id (.sl true 1 (Ze (J3 E v j)))), (6, vGI j)]) (fun j => j <= E.length) (fun j => E.length - j) 0 _ j2 ⟨rfl, rfl, by exact Zq (l := []) rfl, rfl, trivial⟩ ?_
 intro j id s nx hj
 have hl := Znd E v j
 by_cases hlt : j < E.length
 ·have r0 : (E.getD (j * 1) []).getD (0 * 1) 0 = ea E j := by rw [Nat.mul_one]; rfl
  have r1 : (E.getD (j * 1) []).getD (1 * 1) 0 = eb E j := by rw [Nat.mul_one]; rfl
  have r2 : (E.getD (j * 1) []).length = 2 := by rw [Nat.mul_one]; exact h2 j hlt
  repeat' (first | (refine w2_ ?_ ?_ <;> intro _) | refine a1_ ?_|fail)
  all_goals try (exfalso; omega)
  case refine_1.refine_1 h3 h4 =>
   have e1 : J3 E v j ++ [(E.getD (j * 1) []).getD (0 * 1) 0] = J3 E v (j + 1) := by rw [J3, if_pos j2, r0]
   exact ⟨j + 1, by omega, ⟨_, rfl, rfl, by exact Zq e1, Zb j2, trivial⟩, by omega⟩
  case refine_1.refine_2 h3 h4 =>
   have e1 : J3 E v j = J3 E v (j + 1) := by rw [J3, if_neg j2]
   exact ⟨j + 1, by omega, ⟨_, rfl, rfl, by exact Zq e1, Zb j2, trivial⟩, by omega⟩
 ·have ej : j = E.length := by omega
  rw [ej] at hl ⊢
  generalize hLo : J3 E v E.length = Lo at *
  repeat' (first | (refine w2_ ?_ ?_ <;> intro _) | refine a1_ ?_|fail)
  all_goals try (exfalso; omega)
  refine WpA.loop_slots2 (fun j id => [(1, vGI v), (2, .own 2 (.pt true [.sl false 1 (Ze w), .sl false 1 (LLs E)])), (5, .own id (.sl true 1 (Ze (Lo ++ Jv E v j)))), (7, vGI j)]) (fun j => j <= E.length) (fun j => E.length - j) 0 _ j2 ⟨rfl, rfl, by exact Zq (by simp [Jv]), rfl, trivial⟩ ?_
  intro j id s nx hj
  have hl2 := Zne E v j
  by_cases hlt : j < E.length
  ·have r0 : (E.getD (j * 1) []).getD (0 * 1) 0 = ea E j := by rw [Nat.mul_one]; rfl
   have r1 : (E.getD (j * 1) []).getD (1 * 1) 0 = eb E j := by rw [Nat.mul_one]; rfl
   have r2 : (E.getD (j * 1) []).length = 2 := by rw [Nat.mul_one]; exact h2 j hlt
   repeat' (first | (refine w2_ ?_ ?_ <;> intro _) | refine a1_ ?_|fail)
   all_goals try (exfalso; omega)
   case refine_1.refine_1 h3 h4 =>
    have e1 : Lo ++ Jv E v j ++ [(E.getD (j * 1) []).getD (1 * 1) 0] = Lo ++ Jv E v (j + 1) := by rw [Jv, if_pos j2, r1, List.append_assoc]
    exact ⟨j + 1, by omega, ⟨_, rfl, rfl, by exact Zq e1, Zb j2, trivial⟩, by omega⟩
   case refine_1.refine_2 h3 h4 =>
    have e1 : Lo ++ Jv E v j = Lo ++ Jv E v (j + 1) := by rw [Jv, if_neg j2]
    exact ⟨j + 1, by omega, ⟨_, rfl, rfl, by exact Zq e1, Zb j2, trivial⟩, by omega⟩
  ·have ej : j = E.length := by omega
   have e1 : Lo ++ Jv E v j = Zf E v := by rw [ej, Zf, hLo]
   rw [e1]
   repeat' (first | (refine w2_ ?_ ?_ <;> intro _) | refine a1_ ?_|fail)
   all_goals try (exfalso; omega)
   all_goals rfl
end Go.Proofs.YtmgmpnhlehonmaaGreat
