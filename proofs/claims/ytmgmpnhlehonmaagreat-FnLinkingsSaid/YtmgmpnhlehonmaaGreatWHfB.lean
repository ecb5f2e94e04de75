/- A number stored into a row of a root of rows. No condition. -/
import Derived.Test.YtmgmpnhlehonmaaGreatWHaB
import Derived.Test.YtmgmpnhlehonmaaGreatWGrP
import Derived.Test.YtmgmpnhlehonmaaGreatWGrW
import Derived.Test.YtmgmpnhlehonmaaGreatWPvS
set_option linter.unusedVariables false
set_option linter.unusedSimpArgs false
namespace Go.Proofs.YtmgmpnhlehonmaaGreat
set_option maxHeartbeats 20000000
open Go.Pv
open Go.ChangeShapes Go.WideShapes Go.ChangeAt Go.RowKit
attribute [local irreducible] Za WpA Zg Xf Zz Z6 Zd Yx
instance fnOk134 : Zs Tryz.prog 134 := ⟨_, Tryz.func134, rfl, by decide⟩
instance fnOk169 : Zs Tryz.prog 169 := ⟨_, Tryz.func169, rfl, by decide⟩
instance fnOk76 : Zs Tryz.prog 76 := ⟨_, Tryz.func76, rfl, by decide⟩
instance fnOk72 : Zs Tryz.prog 72 := ⟨_, Tryz.func72, rfl, by decide⟩
abbrev Zq5 (w : List Int) (E : List (List Int)) : List D := [.sl false 1 (Ze w), .sl false 1 (LLs E), .sl false 1 (LLs (nbL E w.length))]
theorem Zbc {K K' : List Bool} (h : K = K') : AV.own 2 (.pt true [.sl true 1 (Xz K)]) = AV.own 2 (.pt true [.sl true 1 (Xz K')]) := by rw [h]
theorem Zq6 {w : List Int} {E : List (List Int)} (hg : Zp w E) : ∀ (m : Nat) (i : Int) (t : List Int) (K : List Bool), NB E (i :: t) -> (0 <= i /\ i < w.length) -> w.length < t.length + 1 + m -> K.length = w.length ->
  Zj2 Tryz.prog 169 [.int .i64 i, .int .i64 (t.headD (-1))] (.pt true [.sl true 1 (Xz K)]) (Zq5 w E) (.pt true [.sl true 1 (Xz (mrk E m K i (t.headD (-1))))])
 | 0, i, t, K, h, hi, hm, _ => by have := h.len hg hi; omega
 | m + 1, i, t, K, h, hi, hm, hK => by
  have IH : ∀ c, c ∈ kids E i (t.headD (-1)) -> ∀ K : List Bool, K.length = w.length -> Zj2 Tryz.prog 169 [.int .i64 c, .int .i64 i] (.pt true [.sl true 1 (Xz K)]) (Zq5 w E) (.pt true [.sl true 1 (Xz (mrk E m K c i))]) := fun c hc K hK =>
   Zq6 hg m c (i :: t) K (Y1 hg.2.2.1 h hc) (Vp hg.2.2.1 hc) x3 hK
  have hkid : ∀ j, j ∈ Zf E i -> j ≠ t.headD (-1) -> j ∈ kids E i (t.headD (-1)) := fun j h1 h2 => by
   simp only [kids, List.mem_filter, decide_eq_true_eq]; exact ⟨h1, h2⟩
  have hlen := hg.1.2
  have hNl := Qu E w.length
  have hNv : (nbL E w.length).getD (i.toNat * 1) [] = Zf E i := by
   rw [Nat.mul_one, Zlc E j2]; congr 1; omega
  have hNr : ((nbL E w.length).getD (i.toNat * 1) []).length = (Zf E i).length := by rw [hNv]
  have hnl := Jh hg.2.2.1 i
  have hfold : mrk E (m + 1) K i (t.headD (-1)) = ((Zf E i).take (Zf E i).length).foldl (fun K c => if c = t.headD (-1) then K else mrk E m K c i) (K.set i.toNat true) := by rw [List.take_length]; rfl
  have hKl : ∀ j, (((Zf E i).take j).foldl (fun K c => if c = t.headD (-1) then K else mrk E m K c i) (K.set i.toNat true)).length = w.length := fun j => by
   rw [Zho (f := fun K c => mrk E m K c i) (fun K c => Zcg E m K c i), List.length_set]; exact hK
  rw [hfold]
  generalize t.headD (-1) = u at *
  have hnext : ∀ j, j < (Zf E i).length -> ((Zf E i).take (j + 1)).foldl (fun K c => if c = u then K else mrk E m K c i) (K.set i.toNat true) = (fun K c => if c = u then K else mrk E m K c i) (((Zf E i).take j).foldl (fun K c => if c = u then K else mrk E m K c i) (K.set i.toNat true)) ((Zf E i).getD j 0) := fun j hj => U7 hj _
  generalize hG : (fun (K : List Bool) (c : Int) => if c = u then K else mrk E m K c i) = G at *
  have hGv : ∀ K c, G K c = if c = u then K else mrk E m K c i := fun K c => by rw [<- hG]
  clear hG hfold
  generalize hR : Zf E i = R at *
  refine Zuz _ Tryz.func169 rfl Tryz.ntmps169 (by decide) rfl (by simp [D.solid, D.solids, V7, Uo]) rfl rfl fun vK vS vM r => ?_
  repeat' (first | (refine w2_ ?_ ?_ <;> intro _) | refine ax_ ?_ | refine Yx.ret rfl rfl | refine Yx.normal rfl rfl | refine Yx.ret rfl ?_ | refine Yx.normal rfl ?_|fail)
  all_goals try (exfalso; omega)
  refine WpA.loop_slots (ι := Nat) (fun j => [(0, vGI i), (1, vGI u), (2, .own 2 (.pt true [.sl true 1 (Xz ((R.take j).foldl G (K.set i.toNat true)))])), (3, .sptr (Zq5 w E) 0), (4, .sptr [.lit (W9 169 vK vS vM)] 0), (16, .c (.sl false 1 (Ze ((nbL E w.length).getD (i.toNat * 1) [])))), (17, vGI R.length), (18, vGI j)]) (fun j => j <= R.length) (fun j => R.length - j) 0 j2 ⟨rfl, rfl, by exact Zbc (by rw [Nat.mul_one]; rfl), rfl, rfl, rfl, Zb (by rw [hNr]), rfl, trivial⟩ ?_
  intro j s nx hj
  by_cases hlt : j < R.length
  ·have hce : ((nbL E w.length).getD (i.toNat * 1) []).getD (j * 1) 0 = R.getD j 0 := by rw [hNv, Nat.mul_one]
   have hcm : R.getD j 0 ∈ R := Z4 hlt
   have hn := hnext j hlt
   have hl := hKl j
   rw [hGv] at hn
   by_cases hcu : ((nbL E w.length).getD (i.toNat * 1) []).getD (j * 1) 0 = u
   ·rw [if_pos (by rw [<- hce]; exact hcu)] at hn
    clear IH hkid hnext hKl hGv
    repeat' (first | (refine w2_ ?_ ?_ <;> intro _) | refine ax_ ?_ | refine Yx.ret rfl rfl | refine Yx.normal rfl rfl | refine Yx.ret rfl ?_ | refine Yx.normal rfl ?_|fail)
    all_goals try (exfalso; omega)
    exact ⟨j + 1, by omega, ⟨rfl, rfl, by exact Zbc hn.symm, rfl, rfl, rfl, rfl, Zb j2, trivial⟩, by omega⟩
   ·rw [if_neg (by rw [<- hce]; exact hcu)] at hn
    have hck := IH _ (hkid _ hcm (by rw [<- hce]; exact hcu)) _ hl
    rw [<- hce] at hck hn
    clear IH hkid hnext hKl hGv
    repeat' (first | (refine w2_ ?_ ?_ <;> intro _) | (guard_target =~ IsN; first | refine Za.cons (Zi8 hck rfl rfl rfl rfl rfl rfl (.cons rfl (.cons rfl .nil)) rfl rfl) ?_) | refine ax_ ?_ | refine Yx.ret rfl rfl | refine Yx.normal rfl rfl | refine Yx.ret rfl ?_ | refine Yx.normal rfl ?_|fail)
    all_goals try (exfalso; omega)
    exact ⟨j + 1, by omega, ⟨rfl, rfl, by exact Zbc hn.symm, rfl, rfl, rfl, rfl, Zb j2, trivial⟩, by omega⟩
  ·have ej : j = R.length := by omega
   subst ej
   clear IH hkid hnext hKl hGv
   repeat' (first | (refine w2_ ?_ ?_ <;> intro _) | refine ax_ ?_ | refine Yx.ret rfl rfl | refine Yx.normal rfl rfl | refine Yx.ret rfl ?_ | refine Yx.normal rfl ?_|fail)
   all_goals try (exfalso; omega)
theorem Zu0 (w : List Int) (E : List (List Int)) (v u : Int) (hg : Zp w E) (he : E.length + 1 = w.length) (hv : 0 <= v /\ v < w.length) (hu : u ∈ Zf E v) : Zj Tryz.prog 134 [Zpt w E, aI v, aI u] [.one (.sl true 1 (Xz (bhL w E v u)))] [] := by
 have hlen := hg.1.2
 have hNl := Qu E w.length
 have hur := Vf hg.2.2.1 hu
 have hnb : NB E [u, v] := Y1 (t := []) hg.2.2.1 trivial (by
  simp only [kids, List.mem_filter, List.headD_nil]
  exact ⟨hu, decide_eq_true (show u ≠ -1 by omega)⟩)
 have hM := Zq6 hg w.length u [v] (List.replicate w.length false) hnb hur (by simp) (by simp)
 rw [List.headD_cons, Zx4 hg he hv hu] at hM
 have hM2 : ∀ k, k = w.length -> Zj2 Tryz.prog 169 [.int .i64 u, .int .i64 v] (.pt true [.sl true 1 (Xz (List.replicate k false))]) (Zq5 w E) (.pt true [.sl true 1 (Xz (bhL w E v u))]) := fun k e => by rw [e]; exact hM
 clear hM
 refine cA_ _ Tryz.func134 rfl Tryz.ntmps134 sO_ ?_
 repeat' (first | (refine w2_ ?_ ?_ <;> intro _) | (guard_target =~ IsW; first | refine WpA.recCall (hM2 _ (by simp <;> omega)) rfl rfl (by simp [D.erases, D.erase, eI_, eM_]) rfl rfl rfl rfl rfl rfl rfl rfl ?_) | refine a1_ ?_|fail)
 all_goals first | rfl | (exfalso; omega) | skip
theorem Zhq (w : List Int) (E : List (List Int)) (v u : Int) (hg : Zp w E) (he : E.length + 1 = w.length) (hv : 0 <= v /\ v < w.length) (hu : u ∈ Zf E v) : Zj Tryz.prog 76 [Zpt w E, aI v, aI u] [rI (Xy w E (bhL w E v u)).1, rB (Xy w E (bhL w E v u)).2] [] := by
 have hB := Zu0 w E v u hg he hv hu
 have hS := Zuw w E (bhL w E v u) hg (Zf6 w E v u)
 have hl := Zf6 w E v u
 have hlen := hg.1.2
 generalize Xy w E (bhL w E v u) = S at *
 generalize bhL w E v u = B at *
 obtain ⟨d, b⟩ := S
 refine cA_ _ Tryz.func76 rfl Tryz.ntmps76 sO_ ?_
 repeat' (first | (refine w2_ ?_ ?_ <;> intro _) | (guard_target =~ Zh; first | refine Za.cons (sC_ (hB) (.sh (.sh (.sh .nil))) (.shAgg rfl gA_ (.sh wS_ (.sh wS_ .nil))) rfl) ?_ | refine Za.cons (sC_ (hS) (.sh (.sh .nil)) (.shAgg rfl gA_ (.sh wS_ .nil)) rfl) ?_) | refine a2_ ?_|fail)
 all_goals first | rfl | (exfalso; omega) | skip
theorem Zen (w : List Int) (E : List (List Int)) (v u : Int) (hg : Zp w E) (he : E.length + 1 = w.length) (hv : 0 <= v /\ v < w.length) : Zj Tryz.prog 72 [aGr w E, aI v, aI u] [rI (Yt w E (bhL w E v u)).1, rB (Yt w E (bhL w E v u)).2] [] := by
 have hlen := hg.1.2
 have hl := Zf6 w E v u
 have hS := Zns w E (bhL w E v u) hg hl
 generalize Yt w E (bhL w E v u) = S at *
 obtain ⟨d, b⟩ := S
 have hat : ∀ x, x < w.length -> (bhL w E v u).getD x false = (decide ((x : Int) ≠ v) && decide (Zch (pth w E x v) = u)) := fun x hx => Zhp hx
 generalize bhL w E v u = B at *
 refine cA_ _ Tryz.func72 rfl Tryz.ntmps72 sO_ ?_
 repeat' (first | (refine w2_ ?_ ?_ <;> intro _) | refine a2_ ?_|fail)
 all_goals try (exfalso; omega)
 refine WpA.loop_ids2 (fun j i8 i10 => [(1, vGI v), (2, vGI u), (3, .own 3 (.pt true [.sl false 1 (Ze w), .sl false 1 (LLs E)])), (8, .own i8 (.sl true 1 (Xz (B.take j ++ List.replicate (w.length - j) false)))), (9, vGI j)]) (fun j => j <= w.length) (fun j => w.length - j) 0 _ 0 j2 ⟨rfl, rfl, rfl, by exact Ug (by simp), rfl, trivial⟩ ?_
 intro j i8 i10 s nx hj
 have hml : (B.take j ++ List.replicate (w.length - j) false).length = w.length := by simp [hl]; omega
 by_cases hlt : j < w.length
 ·have hn := Zuy hl hlt
  rw [hat j hlt] at hn
  have hP := Zdt w E j v hg j2 hv
  have hne := Zlk hg he (i := j) (k := v) j2 hv
  have hpl := Zk9 hg (i := j) (k := v) j2
  rw [<- Nat.mul_one j] at hn
  generalize hM : B.take j ++ List.replicate (w.length - j) false = M at *
  rw [Nat.mul_one j, hM] at hn
  clear hS hat
  generalize hPP : pth w E j v = P at *
  by_cases hjv : (j : Int) = v
  ·have e0 : (decide ((j : Int) ≠ v) && decide (Zch P = u)) = false := by rw [decide_eq_false (fun h => h hjv)]; rfl
   rw [e0] at hn
   have hn' := hn
   rw [show M.set j = M.set (j * 1) by rw [Nat.mul_one]] at hn'
   clear hPP
   repeat' (first | (refine w2_ ?_ ?_ <;> intro _) | (guard_target =~ Zh; first | refine Za.cons (sC_ (hP) (.sh (.sh (.sh .nil))) (.shAgg rfl gA_ (.sh wS_ (.sh wS_ .nil))) rfl) ?_) | refine a2_ ?_|fail)
   all_goals try (exfalso; omega)
   all_goals exact ⟨j + 1, by omega, ⟨_, 0, rfl, rfl, rfl, by exact Ug hn', Zb j2, trivial⟩, by omega⟩
  ·have hP2 : 2 <= P.length := by
    obtain ⟨z, hz⟩ := W8 hg he (i := j) (k := v) j2 hv
    obtain ⟨l, q, k1, k2, k3⟩ := Hj hg j2 hz
    rw [<- hPP, k3]
    cases l with
    | nil =>
     cases q with
     | nil => exact absurd (List.cons.inj k2).1 hjv
     | cons y q => have := congrArg List.length k2; simp at this
    | cons y l => simp
   have e0 : (decide ((j : Int) ≠ v) && decide (Zch P = u)) = decide (P.getD ((((P.length : Nat) : Int) - 2).toNat * 1) 0 = u) := by
    rw [decide_eq_true hjv, Bool.true_and]
    unfold Zch
    rw [Nat.mul_one, show (((P.length : Nat) : Int) - 2).toNat = P.length - 2 by omega]
   rw [e0] at hn
   have hn' := hn
   rw [show M.set j = M.set (j * 1) by rw [Nat.mul_one]] at hn'
   clear hPP
   repeat' (first | (refine w2_ ?_ ?_ <;> intro _) | (guard_target =~ Zh; first | refine Za.cons (sC_ (hP) (.sh (.sh (.sh .nil))) (.shAgg rfl gA_ (.sh wS_ (.sh wS_ .nil))) rfl) ?_) | refine a2_ ?_|fail)
   all_goals try (exfalso; omega)
   all_goals exact ⟨j + 1, by omega, ⟨_, 0, rfl, rfl, rfl, by exact Ug hn', Zb j2, trivial⟩, by omega⟩
 ·have ej : j = w.length := by omega
  subst ej
  have e : B.take w.length ++ List.replicate (w.length - w.length) false = B := by
   rw [List.take_of_length_le j2]; simp
  rw [e] at hml ⊢
  clear hat
  repeat' (first | (refine w2_ ?_ ?_ <;> intro _) | (guard_target =~ Zh; first | refine Za.cons (sC_ (hS) (.sh (.sh .nil)) (.shAgg rfl gA_ (.sh wS_ .nil)) rfl) ?_) | refine a2_ ?_|fail)
  all_goals try (exfalso; omega)
  all_goals rfl
end Go.Proofs.YtmgmpnhlehonmaaGreat
namespace Go.Proofs.YtmgmpnhlehonmaaGreat
set_option maxHeartbeats 20000000
open Go.Pv
open Go.ChangeShapes Go.WideShapes Go.ChangeAt Go.RowKit
attribute [local irreducible] Za WpA Zg Xf Zz Z6 Zd
instance fnOk132 : Zs Tryz.prog 132 := ⟨_, Tryz.func132, rfl, by decide⟩
instance fnOk144 : Zs Tryz.prog 144 := ⟨_, Tryz.func144, rfl, by decide⟩
instance fnOk88 : Zs Tryz.prog 88 := ⟨_, Tryz.func88, rfl, by decide⟩
instance fnOk168 : Zs Tryz.prog 168 := ⟨_, Tryz.func168, rfl, by decide⟩
instance fnOk130 : Zs Tryz.prog 130 := ⟨_, Tryz.func130, rfl, by decide⟩
instance fnOk133 : Zs Tryz.prog 133 := ⟨_, Tryz.func133, rfl, by decide⟩
instance fnOk75 : Zs Tryz.prog 75 := ⟨_, Tryz.func75, rfl, by decide⟩
instance fnOk131 : Zs Tryz.prog 131 := ⟨_, Tryz.func131, rfl, by decide⟩
theorem Zx5 (l m : List Int) (hl : l.length <= 1000000000) (hm : m.length <= 1000000000) : Zj Tryz.prog 132 [aL l, aL m] [rB (decide (l = m))] [] := by
 by_cases hlen : l.length = m.length
 ·refine cA_ _ Tryz.func132 rfl Tryz.ntmps132 sO_ ?_
  repeat' (first | (refine w2_ ?_ ?_ <;> intro _) | refine a1_ ?_|fail)
  all_goals try (exfalso; omega)
  refine WpA.loop_slots (ι := Nat) (fun j => [(0, .c (.sl false 1 (Ze l))), (1, .c (.sl false 1 (Ze m))), (12, vGI l.length), (13, vGI j)]) (fun j => j <= l.length /\ ∀ k, k < j -> l.getD k 0 = m.getD k 0) (fun j => l.length - j) 0 ⟨by omega, fun k hk => by omega⟩ ⟨rfl, rfl, rfl, rfl, trivial⟩ ?_
  rintro j s nx ⟨h1, h2⟩
  by_cases hlt : j < l.length
  ·by_cases e : l.getD (j * 1) 0 = m.getD (j * 1) 0
   ·repeat' (first | (refine w2_ ?_ ?_ <;> intro _) | refine a1_ ?_|fail)
    all_goals try (exfalso; simp_all; done)
    all_goals try (exfalso; omega)
    refine ⟨j + 1, ⟨by omega, fun k hk => ?_⟩, ⟨rfl, rfl, rfl, Zb j2, trivial⟩, by omega⟩
    by_cases e2 : k = j
    ·rw [Nat.mul_one] at e; rw [e2]; exact e
    ·exact h2 k j2
   ·rw [decide_eq_false (fun h => e (by rw [h]))]
    clear h2
    repeat' (first | (refine w2_ ?_ ?_ <;> intro _) | refine a1_ ?_|fail)
    all_goals first | rfl | (exfalso; simp_all; done) | (exfalso; omega)
  ·rw [decide_eq_true (Kj hlen fun k hk => h2 k j2)]
   clear h2
   repeat' (first | (refine w2_ ?_ ?_ <;> intro _) | refine a1_ ?_|fail)
   all_goals first | rfl | (exfalso; omega)
 ·rw [decide_eq_false (fun h => hlen (by rw [h]))]
  refine cA_ _ Tryz.func132 rfl Tryz.ntmps132 sO_ ?_
  repeat' (first | (refine w2_ ?_ ?_ <;> intro _) | refine a1_ ?_|fail)
  all_goals first | rfl | (exfalso; omega)
theorem Zu1 (l : List Int) (x : Int) (hl : l.length <= 1000000000) : Zj Tryz.prog 144 [aL l, aI x] [rI (ixF l x)] [] := by
 refine cA_ _ Tryz.func144 rfl Tryz.ntmps144 sO_ ?_
 repeat' (first | (refine w2_ ?_ ?_ <;> intro _) | refine a1_ ?_|fail)
 refine WpA.loop_slots (ι := Nat) (fun j => [(0, .c (.sl false 1 (Ze l))), (1, vGI x), (7, vGI l.length), (8, vGI j)]) (fun j => j <= l.length /\ ∀ k, k < j -> l.getD k 0 ≠ x) (fun j => l.length - j) 0 ⟨by omega, fun k hk => by omega⟩ ⟨rfl, rfl, rfl, rfl, trivial⟩ ?_
 rintro j s nx ⟨h1, h2⟩
 by_cases hlt : j < l.length
 ·by_cases e : l.getD (j * 1) 0 = x
  ·rw [Zlg hlt (by rw [Nat.mul_one] at e; exact e) h2]
   clear h2
   repeat' (first | (refine w2_ ?_ ?_ <;> intro _) | refine a1_ ?_|fail)
   all_goals first | rfl | (exfalso; omega)
  ·repeat' (first | (refine w2_ ?_ ?_ <;> intro _) | refine a1_ ?_|fail)
   all_goals try (exfalso; simp_all; done)
   all_goals try (exfalso; omega)
   refine ⟨j + 1, ⟨by omega, fun k hk => ?_⟩, ⟨rfl, rfl, rfl, Zb j2, trivial⟩, by omega⟩
   by_cases e2 : k = j
   ·rw [Nat.mul_one] at e; rw [e2]; exact e
   ·exact h2 k j2
 ·rw [Zpl fun k hk => h2 k j2]
  clear h2
  repeat' (first | (refine w2_ ?_ ?_ <;> intro _) | refine a1_ ?_|fail)
  all_goals first | rfl | (exfalso; omega)
theorem Zpx (l : List Int) (x : Int) (hl : l.length <= 1000000000) : Zj Tryz.prog 88 [aL l, aI x] [rB (decide (x ∈ l))] [] := by
 have hm := Zlh (l := l) (x := x)
 refine cA_ _ Tryz.func88 rfl Tryz.ntmps88 sO_ ?_
 repeat' (first | (refine w2_ ?_ ?_ <;> intro _) | refine kM_ (Zu1 l x hl) ?_ | refine a1_ ?_|fail)
 simp only [hm]
theorem Xaf (i k : Int) : Zj Tryz.prog 133 [aI i, aI k] [rL [min i k, max i k]] [] := by
 refine cA_ _ Tryz.func133 rfl Tryz.ntmps133 sO_ ?_
 repeat' (first | (refine w2_ ?_ ?_ <;> intro _) | refine a1_ ?_|fail)
 all_goals rfl
theorem Zu2 (e : List Int) (i k : Int) (he : e.length <= 1000000000) : Zj Tryz.prog 131 [aL e, .sh (.one (.pt false [.lit (.int .i64 i)])), .sh (.one (.pt false [.lit (.int .i64 k)]))] [rB (decide (e = [min i k, max i k]))] [] := by
 have hE := Xaf i k
 have hQ := Zx5 e [min i k, max i k] he (by simp)
 generalize ([min i k, max i k] : List Int) = x at *
 generalize decide (e = x) = b at *
 refine cA_ _ Tryz.func131 rfl Tryz.ntmps131 sO_ ?_
 repeat' (first | (refine w2_ ?_ ?_ <;> intro _) | refine kM_ hE ?_ | refine kM_ hQ ?_ | refine a1_ ?_|fail)
 all_goals first | rfl | skip
def ixR (e : List Int) : List (List Int) -> Int
 | [] => -1
 | r :: L => if r = e then 0 else if ixR e L = -1 then -1 else ixR e L + 1
theorem Zu3 {e : List Int} : ∀ {L : List (List Int)} {i : Nat}, i < L.length -> L.getD i [] = e -> (∀ k, k < i -> L.getD k [] ≠ e) -> ixR e L = i
 | [], i, h, _, _ => by simp at h
 | r :: L, 0, _, h, _ => by rw [ixR, if_pos v6]; rfl
 | r :: L, i + 1, h, hx, hk => by
  have h0 : r ≠ e := by simpa using hk 0 j2
  have ih := Zu3 (L := L) (i := i) v6 (by simpa using hx) (fun k hlt => by simpa using hk (k + 1) j2)
  rw [ixR, if_neg h0, ih, if_neg j2]
  omega
theorem Zu4 {e : List Int} : ∀ {L : List (List Int)}, (∀ k, k < L.length -> L.getD k [] ≠ e) -> ixR e L = -1
 | [], _ => rfl
 | r :: L, h => by
  have h0 : r ≠ e := by simpa using h 0 (by simp)
  rw [ixR, if_neg h0, Zu4 (L := L) (fun k hk => by simpa using h (k + 1) (by simpa using hk)), if_pos rfl]
theorem Zu5 (e : List Int) : ∀ L : List (List Int), -1 <= ixR e L
 | [] => by simp [ixR]
 | r :: L => by
  have := Zu5 e L
  rw [ixR]
  split
  ·omega
  ·split <;> omega
theorem Zq7 {e : List Int} : ∀ {L : List (List Int)}, 0 <= ixR e L ↔ e ∈ L
 | [] => by simp [ixR]
 | r :: L => by
  have ih := Zq7 (e := e) (L := L)
  have hge := Zu5 e L
  rw [ixR, List.mem_cons]
  by_cases h : r = e
  ·rw [if_pos h]; simp [h]
  ·rw [if_neg h, <- ih]
   split
   ·constructor
    ·intro h; omega
    ·rintro (h' | h')
     ·exact absurd h'.symm h
     ·omega
   ·constructor
    ·intro _; exact .inr j2
    ·intro _; omega
abbrev Zu6 (i k : Int) : Arg := .sh (.one (.fn 131 [.pt false [.lit (.int .i64 i)], .pt false [.lit (.int .i64 k)]]))
theorem Znw (L : List (List Int)) (i k : Int) (hL : L.length <= 1000000000) (hl : ∀ j, (L.getD j []).length <= 1000000000) : Zj Tryz.prog 168 [aLL L, Zu6 i k] [rI (ixR [min i k, max i k] L)] [] := by
 refine cA_ _ Tryz.func168 rfl Tryz.ntmps168 sO_ ?_
 repeat' (first | (refine w2_ ?_ ?_ <;> intro _) | refine a1_ ?_|fail)
 refine WpA.loop_slots (ι := Nat) (fun j => [(0, .c (.sl false 1 (LLs L))), (1, .c (.fn 131 [.pt false [.lit (.int .i64 i)], .pt false [.lit (.int .i64 k)]])), (7, vGI L.length), (8, vGI j)]) (fun j => j <= L.length /\ ∀ a, a < j -> L.getD a [] ≠ [min i k, max i k]) (fun j => L.length - j) 0 ⟨by omega, fun i hi => by omega⟩ ⟨rfl, rfl, rfl, rfl, trivial⟩ ?_
 rintro j s nx ⟨hj, hok⟩
 by_cases hlt : j < L.length
 ·have hP := Zu2 (L.getD (j * 1) []) i k (hl _)
  by_cases hp : L.getD (j * 1) [] = [min i k, max i k]
  ·rw [decide_eq_true hp] at hP
   rw [Zu3 hlt (by rw [Nat.mul_one] at hp; exact hp) hok]
   clear hok hp
   repeat' (first | (refine w2_ ?_ ?_ <;> intro _) | (guard_target =~ Zh; first | refine Za.cons (Zar (hP) xR_ xR_ (.sh .nil) (.sh wS_ .nil) rfl) ?_) | refine a1_ ?_|fail)
   all_goals first | rfl | (exfalso; simp_all; done) | (exfalso; omega)
  ·rw [decide_eq_false hp] at hP
   have hp2 : L.getD j [] ≠ [min i k, max i k] := by rw [Nat.mul_one] at hp; exact hp
   clear hp
   repeat' (first | (refine w2_ ?_ ?_ <;> intro _) | (guard_target =~ Zh; first | refine Za.cons (Zar (hP) xR_ xR_ (.sh .nil) (.sh wS_ .nil) rfl) ?_) | refine a1_ ?_|fail)
   all_goals try (exfalso; simp_all; done)
   all_goals try (exfalso; omega)
   refine ⟨j + 1, ⟨by omega, fun a ha => ?_⟩, ⟨rfl, rfl, rfl, Zb j2, trivial⟩, by omega⟩
   by_cases e : a = j
   ·rw [e]; exact hp2
   ·exact hok a j2
 ·rw [Zu4 fun a ha => hok a j2]
  clear hok
  repeat' (first | (refine w2_ ?_ ?_ <;> intro _) | refine a1_ ?_|fail)
  all_goals first | rfl | (exfalso; omega)
theorem Zhr (L : List (List Int)) (i k : Int) (hL : L.length <= 1000000000) (hl : ∀ j, (L.getD j []).length <= 1000000000) : Zj Tryz.prog 130 [aLL L, Zu6 i k] [rB (decide ([min i k, max i k] ∈ L))] [] := by
 have hm := Zq7 (e := [min i k, max i k]) (L := L)
 have hI := Znw L i k hL hl
 generalize ([min i k, max i k] : List Int) = x at *
 refine cA_ _ Tryz.func130 rfl Tryz.ntmps130 sO_ ?_
 repeat' (first | (refine w2_ ?_ ?_ <;> intro _) | refine kM_ hI ?_ | refine a1_ ?_|fail)
 simp only [hm]
theorem Zsk (w : List Int) (E : List (List Int)) (i k : Int) (hg : Zp w E) : Zj Tryz.prog 75 [aGr w E, aI i, aI k] [rB (decide (k ∈ Zf E i))] [] := by
 have hfew := hg.few
 have hlen := hg.1
 have hC := Zhr E i k j2 (fun j => by
  by_cases hj : j < E.length
  ·rw [(hg.2.2.1 j hj).1]; omega
  ·rw [List.getD_eq_getElem?_getD, List.getElem?_eq_none j2]; simp)
 have hm : [min i k, max i k] ∈ E ↔ k ∈ Zf E i := by
  rw [Xm hg.2.2.1]
  unfold Adj
  constructor
  ·intro h
   rcases Int.le_total i k with e | e
   ·rw [Int.min_eq_left e, Int.max_eq_right e] at h; exact .inl h
   ·rw [Int.min_eq_right e, Int.max_eq_left e] at h; exact .inr h
  ·rintro (h | h)
   ·obtain ⟨j, hj, e1, e2⟩ := (Zb5 hg.2.2.1).1 h
    have := (hg.2.2.1 j hj).2.1
    rw [Int.min_eq_left j2, Int.max_eq_right j2]; exact h
   ·obtain ⟨j, hj, e1, e2⟩ := (Zb5 hg.2.2.1).1 h
    have := (hg.2.2.1 j hj).2.1
    rw [Int.min_eq_right j2, Int.max_eq_left j2]; exact h
 rw [decide_eq_decide.2 hm] at hC
 generalize decide (k ∈ Zf E i) = b at *
 clear hm
 refine cA_ _ Tryz.func75 rfl Tryz.ntmps75 sO_ ?_
 repeat' (first | (refine w2_ ?_ ?_ <;> intro _) | refine kM_ hC ?_ | (guard_target =~ IsN; first | refine Za.cons (Zaq (.cons (.root rfl) (.cons (.root rfl) .nil)) rfl) ?_) | refine a1_ ?_|fail)
 all_goals first | rfl | skip
instance fnOk13 : Zs Tryz.prog 13 := ⟨_, Tryz.func13, rfl, by decide⟩
instance fnOk14 : Zs Tryz.prog 14 := ⟨_, Tryz.func14, rfl, by decide⟩
theorem Ye {w : List Int} {E : List (List Int)} {vs : List Int} (h : Y2 w E vs = 0) : Zp w E /\ (vs.all (fun v => decide (0 <= v /\ v < (w.length : Int)))) = true /\ E.length + 1 = w.length := by
 unfold Y2 at h
 split at h
 ·rename_i h1
  split at h
  ·rename_i h2
   split at h
   ·rename_i h3; exact ⟨h1, h2, h3⟩
   ·omega
  ·omega
 ·omega
theorem Ut (w : List Int) (E : List (List Int)) (vs : List Int) (hv : vs.length <= 1000) (h : Y2 w E vs = 0) :
  Zjf Tryz.prog 61 [aGr w E, mvL vs] [.agg [.sl false 1 (Ze w), .sl false 1 (LLs E), .sl true 1 (LL (nbL E w.length))], rI 0] [] := by
 obtain ⟨hg, hall, hc⟩ := Ye h
 have hlen := hg.1
 have hfew := hg.few
 have hI := Jg w E j2 j2
 rw [decide_eq_true hg] at hI
 have hC := Zav w E j2
 rw [decide_eq_true hc] at hC
 have hN := Zum w E hg
 rw [Zpv] at hall
 clear h
 refine Zbp _ Tryz.func61 rfl Tryz.ntmps61 ?_
 repeat' (first | (refine w2_ ?_ ?_ <;> intro _) | (guard_target =~ Zh; first | refine Za.cons (sC_ (hI) (.sh .nil) (.shAgg rfl gA_ .nil) rfl) ?_) | refine aD_ ?_|fail)
 all_goals try (exfalso; simp_all; done)
 refine WpA.loop_slots (ι := Nat) (fun j => [(1, .own 1 (.sl true 1 (Ze vs))), (2, .own 2 (.pt true [.sl false 1 (Ze w), .sl false 1 (LLs E)])), (4, .own 3 (.pt true [.sl true 1 [], .sl true 1 [], .sl true 1 []])), (12, .als 1 1 []), (13, vGI vs.length), (14, vGI j)]) (fun j => j <= vs.length) (fun j => vs.length - j) 0 j2 ⟨rfl, rfl, rfl, rfl, rfl, rfl, trivial⟩ ?_
 intro j s nx hj
 by_cases hlt : j < vs.length
 ·have hr := hall j hlt
  rw [show vs.getD j 0 = vs.getD (j * 1) 0 by rw [Nat.mul_one]] at hr
  have hV := Zhn w E (vs.getD (j * 1) 0) j2
  rw [decide_eq_true hr] at hV
  clear hI hC hN hall
  repeat' (first | (refine w2_ ?_ ?_ <;> intro _) | (guard_target =~ Zh; first | refine Za.cons (sC_ (hV) (.sh (.sh .nil)) (.shAgg rfl gA_ (.sh wS_ .nil)) rfl) ?_) | refine aD_ ?_|fail)
  all_goals try (exfalso; simp_all; done)
  all_goals try (exfalso; omega)
  exact ⟨j + 1, by omega, ⟨rfl, rfl, rfl, rfl, rfl, Zb j2, trivial⟩, by omega⟩
 ·have ej : j = vs.length := by omega
  subst ej
  clear hI hall
  repeat' (first | (refine w2_ ?_ ?_ <;> intro _) | (guard_target =~ Zh; first | refine Za.cons (sC_ (hC) (.sh .nil) (.shAgg rfl gA_ .nil) rfl) ?_ | refine Za.cons (sC_ (hN) (.sh .nil) (.shAgg rfl gA_ .nil) rfl) ?_) | refine aD_ ?_|fail)
  all_goals try (exfalso; simp_all; done)
  all_goals try (exfalso; omega)
  all_goals rfl
theorem Ub (w : List Int) (E : List (List Int)) (vs : List Int) (hw : w.length <= 2000000) (hE : E.length <= 2000000) (hv : vs.length <= 1000) (h : Y2 w E vs ≠ 0) :
  Zjf Tryz.prog 61 [aGr w E, mvL vs] [.agg [.sl true 1 [], .sl true 1 [], .sl true 1 []], rI (Y2 w E vs)] [] := by
 have hI := Jg w E hw hE
 unfold Y2 at h ⊢
 by_cases hg : Zp w E
 ·rw [if_pos hg] at h ⊢
  rw [decide_eq_true hg] at hI
  have hlen := hg.1
  have hC := Zav w E j2
  have hall := Zpv (vs := vs) (n := w.length)
  refine Zbp _ Tryz.func61 rfl Tryz.ntmps61 ?_
  repeat' (first | (refine w2_ ?_ ?_ <;> intro _) | (guard_target =~ Zh; first | refine Za.cons (sC_ (hI) (.sh .nil) (.shAgg rfl gA_ .nil) rfl) ?_) | refine aD_ ?_|fail)
  all_goals try (exfalso; simp_all; done)
  refine WpA.loop_slots (ι := Nat) (fun j => [(1, .own 1 (.sl true 1 (Ze vs))), (2, .own 2 (.pt true [.sl false 1 (Ze w), .sl false 1 (LLs E)])), (4, .own 3 (.pt true [.sl true 1 [], .sl true 1 [], .sl true 1 []])), (12, .als 1 1 []), (13, vGI vs.length), (14, vGI j)]) (fun j => j <= vs.length /\ ∀ i, i < j -> 0 <= vs.getD i 0 /\ vs.getD i 0 < w.length) (fun j => vs.length - j) 0 ⟨by omega, fun i hi => by omega⟩ ⟨rfl, rfl, rfl, rfl, rfl, rfl, trivial⟩ ?_
  rintro j s nx ⟨hj, hok⟩
  by_cases hlt : j < vs.length
  ·have hV := Zhn w E (vs.getD (j * 1) 0) j2
   have ej : vs.getD (j * 1) 0 = vs.getD j 0 := by rw [Nat.mul_one]
   by_cases hr : 0 <= vs.getD (j * 1) 0 /\ vs.getD (j * 1) 0 < w.length
   ·rw [decide_eq_true hr] at hV
    clear hall hI hC h
    repeat' (first | (refine w2_ ?_ ?_ <;> intro _) | (guard_target =~ Zh; first | refine Za.cons (sC_ (hV) (.sh (.sh .nil)) (.shAgg rfl gA_ (.sh wS_ .nil)) rfl) ?_) | refine aD_ ?_|fail)
    all_goals try (exfalso; simp_all; done)
    all_goals try (exfalso; omega)
    refine ⟨j + 1, ⟨by omega, fun i hi => ?_⟩, ⟨rfl, rfl, rfl, rfl, rfl, Zb j2, trivial⟩, by omega⟩
    by_cases e : i = j
    ·rw [e, <- ej]; exact hr
    ·exact hok i j2
   ·rw [decide_eq_false hr] at hV
    have hna : ¬ (vs.all (fun v => decide (0 <= v /\ v < (w.length : Int)))) = true := fun h => hr (by rw [ej]; exact hall.1 h j hlt)
    rw [if_neg hna]
    clear hall hna hI hC h
    repeat' (first | (refine w2_ ?_ ?_ <;> intro _) | (guard_target =~ Zh; first | refine Za.cons (sC_ (hV) (.sh (.sh .nil)) (.shAgg rfl gA_ (.sh wS_ .nil)) rfl) ?_) | refine aD_ ?_|fail)
    all_goals first | rfl | (exfalso; simp_all; done) | (exfalso; omega)
  ·rw [if_pos (hall.2 fun i hi => hok i j2)] at h ⊢
   have he : ¬ E.length + 1 = w.length := fun e => h (if_pos e)
   rw [if_neg he]
   rw [decide_eq_false he] at hC
   clear hall hI hok h
   repeat' (first | (refine w2_ ?_ ?_ <;> intro _) | (guard_target =~ Zh; first | refine Za.cons (sC_ (hC) (.sh .nil) (.shAgg rfl gA_ .nil) rfl) ?_) | refine aD_ ?_|fail)
   all_goals first | rfl | (exfalso; simp_all; done) | (exfalso; omega)
 ·rw [if_neg hg]
  rw [decide_eq_false hg] at hI
  clear h
  refine Zbp _ Tryz.func61 rfl Tryz.ntmps61 ?_
  repeat' (first | (refine w2_ ?_ ?_ <;> intro _) | (guard_target =~ Zh; first | refine Za.cons (sC_ (hI) (.sh .nil) (.shAgg rfl gA_ .nil) rfl) ?_) | refine aD_ ?_|fail)
  all_goals first | rfl | (exfalso; simp_all; done)
noncomputable def lkN (w : List Int) (E : List (List Int)) (i k : Int) : Int × Int :=
 if Y2 w E [i, k] = 0 then if (Yt w E (V5 (pth w E i k) w.length)).2 = true then ((Yt w E (V5 (pth w E i k) w.length)).1, 0) else (0, 3) else (0, Y2 w E [i, k])
theorem Hl {w : List Int} {i k : Int} (h : ([i, k].all (fun v => decide (0 <= v /\ v < (w.length : Int)))) = true) : (0 <= i /\ i < w.length) /\ (0 <= k /\ k < w.length) := by
 simpa using h
theorem Zi9 (w : List Int) (E : List (List Int)) (i k : Int) (hw : w.length <= 2000000) (hE : E.length <= 2000000) : Zj Tryz.prog 14 [aGr w E, aI i, aI k] [rI (lkN w E i k).1, rI (lkN w E i k).2] [] := by
 have hC := H5 w E [i, k] hw hE (by simp)
 unfold lkN
 by_cases h : Y2 w E [i, k] = 0
 ·rw [if_pos h]
  obtain ⟨hg, hall, hcn⟩ := Ye h
  obtain ⟨hi, hk⟩ := Hl hall
  have hL := Zce w E i k hg hi hk
  rw [h] at hC
  generalize Yt w E (V5 (pth w E i k) w.length) = S at *
  obtain ⟨d, b⟩ := S
  cases b with
  | true =>
   rw [if_pos rfl]
   refine cA_ _ Tryz.func14 rfl Tryz.ntmps14 sO_ ?_
   repeat' (first | (refine w2_ ?_ ?_ <;> intro _) | (guard_target =~ Zh; first | refine Za.cons (sC_ (hC) (.sh (.sh .nil)) (.shAgg rfl gA_ (.sh wS_ .nil)) rfl) ?_ | refine Za.cons (sC_ (hL) (.sh (.sh (.sh .nil))) (.shAgg rfl gA_ (.sh wS_ (.sh wS_ .nil))) rfl) ?_) | refine a2_ ?_|fail)
   all_goals first | rfl | (exfalso; simp_all; done) | (exfalso; omega)
  | false =>
   rw [if_neg (by simp)]
   refine cA_ _ Tryz.func14 rfl Tryz.ntmps14 sO_ ?_
   repeat' (first | (refine w2_ ?_ ?_ <;> intro _) | (guard_target =~ Zh; first | refine Za.cons (sC_ (hC) (.sh (.sh .nil)) (.shAgg rfl gA_ (.sh wS_ .nil)) rfl) ?_ | refine Za.cons (sC_ (hL) (.sh (.sh (.sh .nil))) (.shAgg rfl gA_ (.sh wS_ (.sh wS_ .nil))) rfl) ?_) | refine a2_ ?_|fail)
   all_goals first | rfl | (exfalso; simp_all; done) | (exfalso; omega)
 ·rw [if_neg h]
  generalize Y2 w E [i, k] = c at *
  refine cA_ _ Tryz.func14 rfl Tryz.ntmps14 sO_ ?_
  repeat' (first | (refine w2_ ?_ ?_ <;> intro _) | (guard_target =~ Zh; first | refine Za.cons (sC_ (hC) (.sh (.sh .nil)) (.shAgg rfl gA_ (.sh wS_ .nil)) rfl) ?_) | refine a2_ ?_|fail)
  all_goals first | rfl | (exfalso; simp_all; done) | (exfalso; omega)
theorem Zja (w : List Int) (E : List (List Int)) (i k : Int) (hw : w.length <= 2000000) (hE : E.length <= 2000000) : Zj Tryz.prog 13 [aGr w E, aI i, aI k] [rI (lkN w E i k).1, rI (lkN w E i k).2] [] := by
 unfold lkN
 by_cases h : Y2 w E [i, k] = 0
 ·have hC := Ut w E [i, k] (by simp) h
  rw [if_pos h]
  obtain ⟨hg, hall, hcn⟩ := Ye h
  obtain ⟨hi, hk⟩ := Hl hall
  have hL := Zj0 w E i k hg hi hk (Zlk hg hcn hi hk)
  obtain ⟨s1, s2⟩ := Zdw hg (V5 (pth w E i k) w.length)
  rw [<- s1]
  generalize Yt w E (V5 (pth w E i k) w.length) = S at *
  generalize Xy w E (V5 (pth w E i k) w.length) = T at *
  obtain ⟨d, b⟩ := T
  simp only at s1 s2
  have hM := Zpu d b
  cases b with
  | true =>
   have s3 := s2 rfl
   rw [if_pos rfl, if_pos rfl] at hM
   rw [if_pos rfl, <- s3]
   refine cA_ _ Tryz.func13 rfl Tryz.ntmps13 sO_ ?_
   repeat' (first | (refine w2_ ?_ ?_ <;> intro _) | (guard_target =~ Zh; first | refine Za.cons (Z2 (hC) (.sh (.mv vA_ .nil)) (.sh (.agg rfl j5) (.mv .nil)) rfl) ?_ | refine Za.cons (sC_ (hL) (.sh (.sh (.sh .nil))) (.shAgg rfl gA_ (.sh wS_ (.sh wS_ .nil))) rfl) ?_ | refine kM_ hM ?_) | refine a2_ ?_|fail)
   all_goals first | rfl | (exfalso; simp_all; done) | (exfalso; omega)
  | false =>
   rw [if_neg (by simp), if_neg (by simp)] at hM
   rw [if_neg (by simp)]
   refine cA_ _ Tryz.func13 rfl Tryz.ntmps13 sO_ ?_
   repeat' (first | (refine w2_ ?_ ?_ <;> intro _) | (guard_target =~ Zh; first | refine Za.cons (Z2 (hC) (.sh (.mv vA_ .nil)) (.sh (.agg rfl j5) (.mv .nil)) rfl) ?_ | refine Za.cons (sC_ (hL) (.sh (.sh (.sh .nil))) (.shAgg rfl gA_ (.sh wS_ (.sh wS_ .nil))) rfl) ?_ | refine kM_ hM ?_) | refine a2_ ?_|fail)
   all_goals first | rfl | (exfalso; simp_all; done) | (exfalso; omega)
 ·have hC := Ub w E [i, k] hw hE (by simp) h
  rw [if_neg h]
  generalize Y2 w E [i, k] = c at *
  refine cA_ _ Tryz.func13 rfl Tryz.ntmps13 sO_ ?_
  repeat' (first | (refine w2_ ?_ ?_ <;> intro _) | (guard_target =~ Zh; first | refine Za.cons (Z2 (hC) (.sh (.mv vA_ .nil)) (.sh (.agg rfl j5) (.mv .nil)) rfl) ?_) | refine a2_ ?_|fail)
  all_goals first | rfl | (exfalso; simp_all; done) | (exfalso; omega)
end Go.Proofs.YtmgmpnhlehonmaaGreat
namespace Go.Pv
section
variable {P : Program} {n : NN} {nid : Nat} {st : Nat -> AV}
theorem Zaw {t x id off i : Nat} {xv : Operand} {v : Int} {T : TypeId} {A : List (List Int)} {ty pos aft g} [X6 P T] (h : st t = .ptr x id [i] off) (hx : st x = .own id (.sl true 1 (LL A))) (hv : Lit st xv (.int .i64 v)) (hi : i < A.length) (hlt : off < (A.getD i []).length) :
  Zg P n ⟨none, .store T (.tmp t) xv, ty, pos, aft, g⟩ nid st (t :: x :: Z5 xv) [(x, .own id (.sl true 1 (LL (A.set i ((A.getD i []).set off v)))))] := by
 have := Kh (P := P) (n := n) (nid := nid) (T := T) (ty := ty) (pos := pos) (aft := aft) (g := g) (path := [i]) h hx (Zo8 hi) rfl hv hlt
 have e := Za6 (id := id) (L := A) (j := i) (m := (A.getD i []).set off v) hi rfl
 rw [List.nil_append] at e
 simp only [D.withKids] at this
 rwa [e] at this
end
end Go.Pv
