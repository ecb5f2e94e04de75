/- A recursive function value is made, laid into its own variable, and called. No condition. -/
import Derived.Test.YtmgmpnhlehonmaaGreatWGrL
import Derived.Test.YtmgmpnhlehonmaaGreatWGrP
import Derived.Test.YtmgmpnhlehonmaaGreatWGrF
import Derived.Test.YtmgmpnhlehonmaaGreatWGrW
import Derived.Test.YtmgmpnhlehonmaaGreatWPvT
import Derived.Test.YtmgmpnhlehonmaaGreatWPwC
import Derived.Test.YtmgmpnhlehonmaaGreatWPvX
set_option linter.unusedVariables false
set_option linter.unusedSimpArgs false
namespace Go.Proofs.YtmgmpnhlehonmaaGreat
set_option maxHeartbeats 20000000
open Go.Pv
open Go.ChangeShapes Go.WideShapes Go.ChangeAt Go.RowKit
attribute [local irreducible] Za WpA Zg Xf Zz Z6 Zd
instance fnOk95 : Zs Tryz.prog 95 := ⟨_, Tryz.func95, rfl, by decide⟩
instance fnOk122 : Zs Tryz.prog 122 := ⟨_, Tryz.func122, rfl, by decide⟩
instance fnOk61 : Zs Tryz.prog 61 := ⟨_, Tryz.func61, rfl, by decide⟩
instance fnOk66 : Zs Tryz.prog 66 := ⟨_, Tryz.func66, rfl, by decide⟩
instance fnOk124 : Zs Tryz.prog 124 := ⟨_, Tryz.func124, rfl, by decide⟩
instance fnOk63 : Zs Tryz.prog 63 := ⟨_, Tryz.func63, rfl, by decide⟩
theorem Zq2 {f : Nat -> Bool} : ∀ n, 2 <= cnt f n -> ∃ i, i < n /\ f i = true /\ cnt f i = 1
 | 0, h => by simp [cnt] at h
 | n + 1, h => by
  by_cases h2 : 2 <= cnt f n
  ·obtain ⟨i, h3, h4⟩ := Zq2 n h2
   exact ⟨i, by omega, h4⟩
  ·rw [cnt] at h
   cases hf : f n with
   | true =>
    rw [hf] at h
    simp at h
    exact ⟨n, by omega, hf, by omega⟩
   | false =>
    rw [hf] at h
    simp at h
    omega
theorem Zx3 {w : List Int} {E : List (List Int)} (hg : Zp w E) : (1 : Int) ∈ X1 w E ↔ E.length + 1 ≠ w.length := by
 have hc : cnt (Zr (U9 w E)) w.length + E.length = w.length := hg.count
 constructor
 ·intro h he
  obtain ⟨i, hi, hx⟩ := Uh h
  rw [Ur] at hi
  rw [Zf0 hi] at hx
  have h1 := Xh hg (x := (i : Int)) j2
  have h2 := Qy (Zr (U9 w E)) (a := (Zv w E i).toNat) (b := w.length) j2 ((Uc w E _).2 (by rw [show ((Zv w E i).toNat : Int) = Zv w E i by omega]; exact h1.2.2))
  omega
 ·intro he
  have hf := hg.few
  obtain ⟨i, hi, hr, h1⟩ := Zq2 (f := Zr (U9 w E)) w.length j2
  have h2 := (Uc w E i).1 hr
  have h3 := Zf0 (w := w) (E := E) hi
  rw [h2, Int.toNat_natCast, h1] at h3
  rw [show (1 : Int) = (X1 w E).getD i 0 from h3.symm]
  exact Z4 (by rw [Ur]; exact hi)
theorem Znu {w : List Int} {E : List (List Int)} (hg : Zp w E) (he : E.length + 1 = w.length) {x : Int} (hx : 0 <= x /\ x < w.length) : Zv w E x = 0 := by
 have hc : cnt (Zr (U9 w E)) w.length + E.length = w.length := hg.count
 have h1 := Xh hg hx
 have hr : Zr (U9 w E) (Zv w E x).toNat = true := (Uc w E _).2 (by rw [show ((Zv w E x).toNat : Int) = Zv w E x by omega]; exact h1.2.2)
 have h2 := Qy (Zr (U9 w E)) (a := (Zv w E x).toNat) (b := w.length) j2 hr
 have h0 := Xh hg (x := 0) j2
 have hz : Zv w E 0 = 0 := by omega
 have hr0 : Zr (U9 w E) 0 = true := (Uc w E 0).2 hz
 by_cases e : Zv w E x = 0
 ·exact e
 ·have h3 := Qy (Zr (U9 w E)) (a := 0) (b := (Zv w E x).toNat) j2 hr0
  omega
theorem W8 {w : List Int} {E : List (List Int)} (hg : Zp w E) (he : E.length + 1 = w.length) {i k : Int} (hi : 0 <= i /\ i < w.length) (hk : 0 <= k /\ k < w.length) : ∃ u, Bw E k [] i u := by
 have e := (Znu hg he hi).trans (Znu hg he hk).symm
 have key := Ww hg.2.2.1 (S := fun y => ∃ u, Bw E k [] y u) (fun a b hab hs => Zpc hg.2.2.1 hab hs) E.length (Nat.le_refl _) k.toNat i.toNat j2 j2 e.symm
 have e1 : (k.toNat : Int) = k := by omega
 have e2 : (i.toNat : Int) = i := by omega
 rw [e1, e2] at key
 exact key ⟨_, Bw.self (show NB E [k] from trivial)⟩
theorem Zlk {w : List Int} {E : List (List Int)} (hg : Zp w E) (he : E.length + 1 = w.length) {i k : Int} (hi : 0 <= i /\ i < w.length) (hk : 0 <= k /\ k < w.length) : pth w E i k ≠ [] := by
 obtain ⟨u, h⟩ := W8 hg he hi hk
 obtain ⟨l, q, _, _, h3⟩ := Hj hg hi h
 rw [h3]; exact List.cons_ne_nil _ _
theorem Zhn (w : List Int) (E : List (List Int)) (v : Int) (hw : w.length <= 1000000000) : Zj Tryz.prog 95 [aGr w E, aI v] [rB (decide (0 <= v /\ v < w.length))] [] := by
 have e : decide (0 <= v /\ v < (w.length : Int)) = decide (0 <= v /\ v <= (w.length : Int) - 1) := decide_eq_decide.2 j2
 rw [e]
 refine cA_ _ Tryz.func95 rfl Tryz.ntmps95 sO_ ?_
 repeat' (first | (refine w2_ ?_ ?_ <;> intro _) | refine kM_ (Zdk _ _ _) ?_ | refine a1_ ?_|fail)
 all_goals rfl
theorem Znv (w : List Int) (E : List (List Int)) (v : Int) (hw : w.length <= 1000000000) : Zj Tryz.prog 124 [aGr w E, aI v] [rB (decide (0 <= v /\ v < w.length))] [] := by
 have e : decide (0 <= v /\ v < (w.length : Int)) = decide (0 <= v /\ v <= (w.length : Int) - 1) := decide_eq_decide.2 j2
 rw [e]
 refine cA_ _ Tryz.func124 rfl Tryz.ntmps124 sO_ ?_
 repeat' (first | (refine w2_ ?_ ?_ <;> intro _) | refine kM_ (Z7 _ _ _) ?_ | refine a1_ ?_|fail)
 all_goals rfl
theorem Zav (w : List Int) (E : List (List Int)) (hw : w.length <= 1000000000) : Zj Tryz.prog 122 [aGr w E] [rB (decide (E.length + 1 = w.length))] [] := by
 have e : decide (E.length + 1 = w.length) = decide ((E.length : Int) = (w.length : Int) - 1) := decide_eq_decide.2 j2
 rw [e]
 refine cA_ _ Tryz.func122 rfl Tryz.ntmps122 sO_ ?_
 repeat' (first | (refine w2_ ?_ ?_ <;> intro _) | refine a1_ ?_|fail)
 all_goals rfl
theorem Zpu (x : Int) (b : Bool) : Zj Tryz.prog 66 [aI x, .sh (.one (.lit (.bool b)))] [rI (if b = true then x else 0), rI (if b = true then 0 else 3)] [] := by
 cases b with
 | true =>
  refine cA_ _ Tryz.func66 rfl Tryz.ntmps66 sO_ ?_
  repeat' (first | (refine w2_ ?_ ?_ <;> intro _) | refine a2_ ?_|fail)
  all_goals first | rfl | (exfalso; simp_all; done)
 | false =>
  refine cA_ _ Tryz.func66 rfl Tryz.ntmps66 sO_ ?_
  repeat' (first | (refine w2_ ?_ ?_ <;> intro _) | refine a2_ ?_|fail)
  all_goals first | rfl | (exfalso; simp_all; done)
def Y2 (w : List Int) (E : List (List Int)) (vs : List Int) : Int :=
 if Zp w E then if vs.all (fun v => decide (0 <= v /\ v < w.length)) = true then if E.length + 1 = w.length then 0 else 5 else 2 else 1
theorem Zpv {vs : List Int} {n : Nat} : (vs.all (fun v => decide (0 <= v /\ v < (n : Int)))) = true ↔ ∀ j, j < vs.length -> 0 <= vs.getD j 0 /\ vs.getD j 0 < n := by
 rw [List.all_eq_true]
 constructor
 ·intro h j hj
  simpa using h _ (Z4 hj)
 ·intro h x hx
  obtain ⟨j, hj, rfl⟩ := Uh hx
  simpa using h j hj
abbrev mvL (l : List Int) : Arg := .mv (.one (.sl true 1 (Ze l)))
theorem H5 (w : List Int) (E : List (List Int)) (vs : List Int) (hw : w.length <= 2000000) (hE : E.length <= 2000000) (hv : vs.length <= 1000) : Zj Tryz.prog 63 [aGr w E, aL vs] [rI (Y2 w E vs)] [] := by
 have hI := Y4 w E hw hE
 unfold Y2
 by_cases hg : Zp w E
 ·rw [if_pos hg]
  rw [decide_eq_true hg] at hI
  have hall := Zpv (vs := vs) (n := w.length)
  have hlen := hg.1
  have hl := Yb w E hg
  have hcl := Ur w E
  have hH := Zhi (X1 w E) 1 j2
  have ho := Zx3 hg
  refine cA_ _ Tryz.func63 rfl Tryz.ntmps63 sO_ ?_
  repeat' (first | (refine w2_ ?_ ?_ <;> intro _) | (guard_target =~ Zh; first | refine Za.cons (sC_ (hI) (.sh .nil) (.shAgg rfl gA_ .nil) rfl) ?_) | refine a1_ ?_|fail)
  all_goals try (exfalso; simp_all; done)
  refine WpA.loop_slots (ι := Nat) (fun j => [(1, .c (.sl false 1 (Ze vs))), (2, .own 2 (.pt true [.sl false 1 (Ze w), .sl false 1 (LLs E)])), (5, vGI j)]) (fun j => j <= vs.length /\ ∀ i, i < j -> 0 <= vs.getD i 0 /\ vs.getD i 0 < w.length) (fun j => vs.length - j) 0 ⟨by omega, fun i hi => by omega⟩ ⟨rfl, rfl, rfl, trivial⟩ ?_
  rintro j s nx ⟨hj, hok⟩
  by_cases hlt : j < vs.length
  ·have hV := Znv w E (vs.getD (j * 1) 0) j2
   have ej : vs.getD (j * 1) 0 = vs.getD j 0 := by rw [Nat.mul_one]
   clear hI hl hH ho
   by_cases hr : 0 <= vs.getD (j * 1) 0 /\ vs.getD (j * 1) 0 < w.length
   ·rw [decide_eq_true hr] at hV
    clear hall
    repeat' (first | (refine w2_ ?_ ?_ <;> intro _) | (guard_target =~ Zh; first | refine Za.cons (sC_ (hV) (.sh (.sh .nil)) (.shAgg rfl gA_ (.sh wS_ .nil)) rfl) ?_) | refine a1_ ?_|fail)
    all_goals try (exfalso; simp_all; done)
    all_goals try (exfalso; omega)
    refine ⟨j + 1, ⟨by omega, fun i hi => ?_⟩, ⟨rfl, rfl, Zb j2, trivial⟩, by omega⟩
    by_cases e : i = j
    ·rw [e, <- ej]; exact hr
    ·exact hok i j2
   ·rw [decide_eq_false hr] at hV
    have hna : ¬ (vs.all (fun v => decide (0 <= v /\ v < (w.length : Int)))) = true := fun h => hr (by rw [ej]; exact hall.1 h j hlt)
    rw [if_neg hna]
    clear hall hna
    repeat' (first | (refine w2_ ?_ ?_ <;> intro _) | (guard_target =~ Zh; first | refine Za.cons (sC_ (hV) (.sh (.sh .nil)) (.shAgg rfl gA_ (.sh wS_ .nil)) rfl) ?_) | refine a1_ ?_|fail)
    all_goals first | rfl | (exfalso; simp_all; done) | (exfalso; omega)
  ·rw [if_pos (hall.2 fun i hi => hok i j2)]
   generalize X1 w E = LB at *
   by_cases he : E.length + 1 = w.length
   ·rw [if_pos he]
    rw [decide_eq_false (fun h => (ho.1 h) he)] at hH
    clear hI hall ho hok
    repeat' (first | (refine w2_ ?_ ?_ <;> intro _) | (guard_target =~ Zh; first | refine Za.cons (sC_ (hl) (.sh .nil) (.shAgg rfl gA_ .nil) rfl) ?_ | refine kM_ hH ?_) | refine a1_ ?_|fail)
    all_goals first | rfl | (exfalso; simp_all; done) | (exfalso; omega)
   ·rw [if_neg he]
    rw [decide_eq_true (ho.2 he)] at hH
    clear hI hall ho hok
    repeat' (first | (refine w2_ ?_ ?_ <;> intro _) | (guard_target =~ Zh; first | refine Za.cons (sC_ (hl) (.sh .nil) (.shAgg rfl gA_ .nil) rfl) ?_ | refine kM_ hH ?_) | refine a1_ ?_|fail)
    all_goals first | rfl | (exfalso; simp_all; done) | (exfalso; omega)
 ·rw [if_neg hg]
  rw [decide_eq_false hg] at hI
  refine cA_ _ Tryz.func63 rfl Tryz.ntmps63 sO_ ?_
  repeat' (first | (refine w2_ ?_ ?_ <;> intro _) | (guard_target =~ Zh; first | refine Za.cons (sC_ (hI) (.sh .nil) (.shAgg rfl gA_ .nil) rfl) ?_) | refine a1_ ?_|fail)
  all_goals first | rfl | (exfalso; simp_all; done)
end Go.Proofs.YtmgmpnhlehonmaaGreat
namespace Go.Proofs.YtmgmpnhlehonmaaGreat
def mrk (E : List (List Int)) : Nat -> List Bool -> Int -> Int -> List Bool
 | 0, K, _, _ => K
 | m + 1, K, i, u => (Zf E i).foldl (fun K c => if c = u then K else mrk E m K c i) (K.set i.toNat true)
theorem Zho {f : List Bool -> Int -> List Bool} (hf : ∀ K c, (f K c).length = K.length) {u : Int} : ∀ (l : List Int) (K : List Bool), (l.foldl (fun K c => if c = u then K else f K c) K).length = K.length
 | [], _ => rfl
 | c :: l, K => by
  rw [List.foldl_cons, Zho hf l]
  split
  ·rfl
  ·exact hf K c
theorem Zcg (E : List (List Int)) : ∀ (m : Nat) (K : List Bool) (i u : Int), (mrk E m K i u).length = K.length
 | 0, _, _, _ => rfl
 | m + 1, K, i, u => by
  rw [mrk, Zho (f := fun K c => mrk E m K c i) (fun K c => Zcg E m K c i), List.length_set]
theorem Xae {K : List Bool} {a x : Nat} (ha : a < K.length) : kp (K.set a true) x = true ↔ kp K x = true \/ x = a := by
 unfold kp
 simp only [List.getD_eq_getElem?_getD, List.getElem?_set]
 by_cases e : a = x
 ·subst e; simp [ha]
 ·rw [if_neg e]
  constructor
  ·exact .inl
  ·rintro (h | h)
   ·exact h
   ·exact absurd h.symm e
theorem Zq3 {w : List Int} {E : List (List Int)} (hg : Zp w E) : ∀ (m : Nat) (i : Int) (t : List Int) (K : List Bool), NB E (i :: t) -> (0 <= i /\ i < w.length) -> w.length < t.length + 1 + m -> K.length = w.length ->
  ∀ x : Nat, kp (mrk E m K i (t.headD (-1))) x = true ↔ kp K x = true \/ ∃ z, Bw E i t x z
 | 0, i, t, K, h, hi, hm, _, _ => by have := h.len hg hi; omega
 | m + 1, i, t, K, h, hi, hm, hK, x => by
  have fold : ∀ (l : List Int), (∀ c ∈ l, c ∈ Zf E i) -> ∀ K : List Bool, K.length = w.length ->
    (kp (l.foldl (fun K c => if c = t.headD (-1) then K else mrk E m K c i) K) x = true ↔ kp K x = true \/ ∃ c, c ∈ l /\ c ≠ t.headD (-1) /\ ∃ z, Bw E c (i :: t) x z) := by
   intro l
   induction l with
   | nil => intro _ K _; simp
   | cons c l ih =>
    intro hl K hK
    rw [List.foldl_cons]
    by_cases e : c = t.headD (-1)
    ·rw [if_pos e, ih (fun c hc => hl c (by simp [hc])) K hK]
     constructor
     ·rintro (h1 | ⟨c', h1, h2⟩)
      ·exact .inl h1
      ·exact .inr ⟨c', by simp [h1], h2⟩
     ·rintro (h1 | ⟨c', h1, h2, h3⟩)
      ·exact .inl h1
      ·rcases List.mem_cons.1 h1 with rfl | h1
       ·exact absurd e h2
       ·exact .inr ⟨c', h1, h2, h3⟩
    ·have hc : c ∈ kids E i (t.headD (-1)) := by simp only [kids, List.mem_filter, decide_eq_true_eq]; exact ⟨hl c (by simp), e⟩
     have hrec := Zq3 hg m c (i :: t) K (Y1 hg.2.2.1 h hc) (Vp hg.2.2.1 hc) (by simp only [List.length_cons]; omega) hK x
     rw [List.headD_cons] at hrec
     rw [if_neg e, ih (fun c hc => hl c (by simp [hc])) _ (by rw [Zcg]; exact hK), hrec]
     constructor
     ·rintro ((h1 | h1) | ⟨c', h1, h2⟩)
      ·exact .inl h1
      ·exact .inr ⟨c, by simp, e, h1⟩
      ·exact .inr ⟨c', by simp [h1], h2⟩
     ·rintro (h1 | ⟨c', h1, h2, h3⟩)
      ·exact .inl (.inl h1)
      ·rcases List.mem_cons.1 h1 with rfl | h1
       ·exact .inl (.inr h3)
       ·exact .inr ⟨c', h1, h2, h3⟩
  rw [mrk, fold (Zf E i) (fun _ h => h) _ (by rw [List.length_set]; exact hK), Xae (by omega)]
  constructor
  ·rintro ((h1 | h1) | ⟨c, h1, h2, z, h3⟩)
   ·exact .inl h1
   ·have e : (x : Int) = i := by omega
    exact .inr ⟨_, by rw [e]; exact Bw.self h⟩
   ·exact .inr ⟨z, h3.kid⟩
  ·rintro (h1 | ⟨z, h1⟩)
   ·exact .inl (.inl h1)
   ·rcases h1.cases hg.2.2.1 with ⟨e, _⟩ | ⟨c, hc, h2⟩
    ·exact .inl (.inr (by omega))
    ·simp only [kids, List.mem_filter, decide_eq_true_eq] at hc
     exact .inr ⟨c, hc.1, hc.2, z, h2⟩
def Zch (P : List Int) : Int := P.getD (P.length - 2) 0
theorem Zj1 (p : List Int) (c v : Int) : Zch (p ++ [c, v]) = c := by
 unfold Zch
 simp [List.getD_eq_getElem?_getD]
theorem Zpw {w : List Int} {E : List (List Int)} (hg : Zp w E) (he : E.length + 1 = w.length) {u v x : Int} (hv : 0 <= v /\ v < w.length) (hx : 0 <= x /\ x < w.length) :
  (∃ z, Bw E u [v] x z) ↔ x ≠ v /\ Zch (pth w E x v) = u := by
 constructor
 ·rintro ⟨z, hb⟩
  have hoff := hb.off hg.forest
  obtain ⟨l, p, h1, h2, h3⟩ := hb
  have e := Zb9 hg hx (k := v) (q := p ++ [u]) h1 (by rw [h2]; simp)
  refine ⟨hoff.1, ?_⟩
  rw [e, h2]
  exact Zj1 p u v
 ·rintro ⟨h1, h2⟩
  obtain ⟨z, hz⟩ := W8 hg he hx hv
  obtain ⟨l, q, k1, k2, k3⟩ := Hj hg hx hz
  rcases List.eq_nil_or_concat q with rfl | ⟨p, c, rfl⟩
  ·obtain ⟨e, _⟩ := List.cons.inj k2
   exact absurd e h1
  ·have k4 : x :: l = p ++ [c, v] := by rw [k2]; simp
   rw [k3, k4, Zj1] at h2
   subst h2
   exact ⟨_, l, p, k1, k4, rfl⟩
def bhL (w : List Int) (E : List (List Int)) (v u : Int) : List Bool := (List.range w.length).map fun x : Nat => decide ((x : Int) ≠ v) && decide (Zch (pth w E x v) = u)
theorem Zf6 (w : List Int) (E : List (List Int)) (v u : Int) : (bhL w E v u).length = w.length := by simp [bhL]
theorem Zhp {w : List Int} {E : List (List Int)} {v u : Int} {x : Nat} (h : x < w.length) : (bhL w E v u).getD x false = (decide ((x : Int) ≠ v) && decide (Zch (pth w E x v) = u)) := by simp [bhL, List.getD, h]
theorem Zx4 {w : List Int} {E : List (List Int)} (hg : Zp w E) (he : E.length + 1 = w.length) {v u : Int} (hv : 0 <= v /\ v < w.length) (hu : u ∈ Zf E v) : mrk E w.length (List.replicate w.length false) u v = bhL w E v u := by
 have hur := Vf hg.2.2.1 hu
 have hnb : NB E [u, v] := Y1 (t := []) hg.2.2.1 trivial (by
  simp only [kids, List.mem_filter, List.headD_nil]
  exact ⟨hu, decide_eq_true (show u ≠ -1 by omega)⟩)
 refine Zq1 (by rw [Zcg, Zf6]; simp) fun x hx => ?_
 rw [Zcg, List.length_replicate] at hx
 rw [Zhp hx]
 have h := Zq3 hg w.length u [v] (List.replicate w.length false) hnb hur (by simp) (by simp) x
 rw [Zpw hg he hv (by omega), List.headD_cons] at h
 have h0 : kp (List.replicate w.length false) x = false := by unfold kp; simp [List.getD_eq_getElem?_getD, List.getElem?_replicate, hx]
 rw [h0] at h
 unfold kp at h
 rw [Bool.eq_iff_iff, h]
 simp
theorem Zuy {L : List Bool} {n j : Nat} (hl : L.length = n) (hj : j < n) : (L.take j ++ List.replicate (n - j) false).set j (L.getD j false) = L.take (j + 1) ++ List.replicate (n - (j + 1)) false := by
 refine Zq1 (by simp [hl]; omega) fun k hk => ?_
 rw [List.length_set, List.length_append, List.length_take, List.length_replicate, hl] at hk
 have hat : ∀ m, m <= n -> (L.take m ++ List.replicate (n - m) false).getD k false = if k < m then L.getD k false else false := fun m hm => by
  have hk2 : k < n := by omega
  simp only [List.getD_eq_getElem?_getD]
  rw [List.getElem?_append, List.length_take, hl]
  by_cases h : k < m
  ·rw [if_pos (by omega), if_pos h, List.getElem?_take_of_lt h]
  ·rw [if_neg (by omega), if_neg h, List.getElem?_replicate]
   split <;> rfl
 have e1 : ((L.take j ++ List.replicate (n - j) false).set j (L.getD j false)).getD k false = if j = k then L.getD j false else (L.take j ++ List.replicate (n - j) false).getD k false := by
  rw [List.getD_eq_getElem?_getD, List.getElem?_set]
  split
  ·rename_i e; subst e
   rw [if_pos (by simp [hl]; omega)]; rfl
  ·rw [List.getD_eq_getElem?_getD]
 rw [e1, hat j (by omega), hat (j + 1) (by omega)]
 by_cases h1 : j = k
 ·subst h1; rw [if_pos rfl, if_pos (by omega)]
 ·rw [if_neg h1]
  by_cases h2 : k < j
  ·rw [if_pos h2, if_pos (by omega)]
  ·rw [if_neg h2, if_neg (by omega)]
end Go.Proofs.YtmgmpnhlehonmaaGreat
namespace Go.Pv
open Go.RowKit
abbrev W9 (K : FuncId) (vK vS vM : Value) : Value := .func (.func K) #[] #[vK, vS, vM]
def Zj2 (P : Program) (K : FuncId) (ks : List Value) (d : D) (cs : List D) (d' : D) : Prop :=
 ∀ (w : World) (vK vS vM : Value) (M0 : List Nat) (F : Nat -> Prop) (r : Rho), (∀ g, F g -> g < w.heap.size /\ g ∉ M0) -> RD F w d r vK M0 -> (∃ r', RD F w (.pt false cs) r' vS []) ->
  (∃ r', RD F w (.pt false [.lit (W9 K vK vS vM)]) r' vM []) -> M0.Nodup -> (∀ g ∈ M0, g < w.heap.size) ->
  Calls P K (ks ++ [vK, vS, vM]).toArray w fun e w' => ∃ Lo, e = .returned (X9 []) /\ Zy w M0 w' /\ RD (Res true F) w' d' r vK Lo /\ Lo.Nodup /\ ∀ g ∈ Lo, g < w'.heap.size /\ (g ∈ M0 \/ w.heap.size <= g)
section
variable {P : Program} {n : NN} {nid : Nat} {st : Nat -> AV} {f : Fr} {X : Nat -> Prop} {a : Act} {w : World} {ρ : Nat -> Rho} {L : Nat -> List Nat} {M : List Nat}
theorem Zq4 (h : Ve f X st a w ρ L) {t : Nat} {cs : List D} (ht : st t = .sptr cs 0) : ∃ r, RD f.F w (.pt false cs) r (tmp a t) [] := by
 have h1 := h.slots t
 rw [ht] at h1
 simp only [SR] at h1
 obtain ⟨_, b, us, r, e0, hb, hc, h5⟩ := h1
 refine ⟨r, ?_⟩
 simp only [RD]
 rw [Vi] at e0
 exact ⟨trivial, b, us, e0, hb, hc, h5⟩
theorem Zi8 {d0 t : Nat} {K : FuncId} {xs : Array Operand} {ts : Array TypeId} {ks : List Value} {d d' : D} {cs : List D} {vK vS vM : Value} {r : Rho} {rd : List Nat} {ty pos aft g} [Zs P K]
  (hc : Zj2 P K ks d cs d') (hk : n.K = [(2, vK), (3, vS), (4, vM)]) (hr : n.R = [(2, r)]) (ht : st t = .c (.lit (W9 K vK vS vM))) (h2 : st 2 = .own 2 d) (h3 : st 3 = .sptr cs 0) (h4 : st 4 = .sptr [.lit (W9 K vK vS vM)] 0) (hks : Zhg st xs.toList rd ks) (hne : (d0 == 2) = false) (hd : n d0 = true) :
  Zg P n ⟨some d0, .call ⟨.value (.tmp t), xs, ts⟩, ty, pos, aft, g⟩ nid st (t :: 2 :: 3 :: 4 :: rd) [(d0, .dead), (2, .own 2 d')] := by
 intro X st' hs hX f a w hn hrep Kk Q hK
 obtain ⟨ρ, L, h⟩ := hrep
 subst hn
 have hne : d0 ≠ 2 := by simpa using hne
 have ht' := (hs t (by simp)).trans ht
 have h2' := (hs 2 (by simp)).trans h2
 have h3' := (hs 3 (by simp)).trans h3
 have h4' := (hs 4 (by simp)).trans h4
 have hks' := (hks.agree (st' := st') fun s hs' => hs s q9).eval h
 have q2 : tmp a 2 = vK := (h.hold (2, vK) (f.hK _ (by rw [hk]; simp))).2
 have q3 : tmp a 3 = vS := (h.hold (3, vS) (f.hK _ (by rw [hk]; simp))).2
 have q4 : tmp a 4 = vM := (h.hold (4, vM) (f.hK _ (by rw [hk]; simp))).2
 have qr : ρ 2 = r := (h.names (2, r) (f.hR _ (by rw [hr]; simp))).2
 have hX2 : X 2 := (h.names (2, r) (f.hR _ (by rw [hr]; simp))).1
 have e0 : a.eval (.tmp t) = W9 K vK vS vM := Lit.eval h (x := .tmp t) ht'
 have k2 := h.slots 2
 rw [h2'] at k2
 simp only [SR] at k2
 rw [q2, qr] at k2
 have k3 := Zq4 h h3'
 rw [q3] at k3
 have k4 := Zq4 h h4'
 rw [q4] at k4
 refine V6 (Wy (x := .tmp t) a.eval #[vK, vS, vM] e0 w) ?_
 have e : xs.map a.eval ++ #[vK, vS, vM] = (ks ++ [vK, vS, vM]).toArray := by
  apply Array.ext'
  rw [Array.toList_append, Array.toList_map, hks']
 rw [e]
 refine (hc w vK vS vM (L 2) f.F r (fun g hg => ⟨h.F_lt hg, fun hm => (h.bound 2 g hm).2 hg⟩) k2 k3 k4 (h.nodup 2) (fun g hg => (h.bound 2 g hg).1)).mono ?_
 rintro e w' ⟨Lo, rfl, hkp, hout, hnd, hL⟩
 refine ⟨_, rfl, ?_⟩
 refine hK _ _ ⟨ρ, fun s => if s = 2 then Lo else if s = d0 then [] else L s, ?_⟩
 refine h.step (fun s => s = 2 \/ s = d0) (L 2) _ _ _ w' _ _ (X4 _ _ _) (X7 _ _ _) (Yj _ hd) hkp (fun g hg => ⟨2, .inl rfl, hg⟩) (fun i hi => rfl) (fun s hs' => ?_) (fun s hs' => ?_) (fun s u hs' hu hsu g hg hgu => ?_) (fun _ h => .inl h) (fun s hs' i hi => ?_)
 ·simp only [not_or] at hs'
  refine ⟨?_, Zm _ _ _ _ hs'.2, by simp [hs'.1, hs'.2]⟩
  simp only [Zn]; rw [Zi _ _ _ _ hs'.1, Zi _ _ _ _ hs'.2]
 ·by_cases hsx : s = 2
  ·subst hsx
   rw [if_pos rfl, Zm _ _ _ _ (Ne.symm hne)]
   simp only [Zn, Zo, SR]
   rw [q2, qr]
   refine ⟨RD.same (fun g hg => by cases hg.1) (fun g hg => by cases hg.1) d' _ _ Lo hout (fun _ _ => rfl), hnd, fun g hg => ⟨(hL g hg).1, ?_⟩⟩
   rcases (hL g hg).2 with h' | h'
   ·exact .inl ⟨2, .inl rfl, h'⟩
   ·exact .inr h'
  ·have hs0 : s = d0 := hs'.resolve_left hsx
   subst hs0
   rw [if_neg hsx, if_pos rfl, Z9 _ _ _ (h.size _ hd)]
   simp only [Zn]
   rw [Zi _ _ _ _ hsx, Zo]
   exact ⟨by simp only [SR], List.nodup_nil, fun g hg => by simp at hg⟩
 ·by_cases hsx : s = 2
  ·have hu0 : u ≠ 2 := fun e => hsu (hsx.trans e.symm)
   have hu' : u = d0 := hu.resolve_left hu0
   rw [if_neg hu0, if_pos hu'] at hgu
   simp at hgu
  ·have hs0 : s = d0 := hs'.resolve_left hsx
   rw [if_neg hsx, if_pos hs0] at hg
   simp at hg
 ·by_cases hsx : s = 2
  ·subst hsx
   simp only [Zn, Zo, AV.ids, List.mem_singleton] at hi
   exact .inl (by rw [hi]; exact hX2)
  ·have hs0 : s = d0 := hs'.resolve_left hsx
   subst hs0
   simp only [Zn] at hi
   rw [Zi _ _ _ _ hsx, Zo] at hi
   simp [AV.ids] at hi
abbrev Yh (k1 k2 : Value) (d : D) (cs : List D) (fv : Value) : List Arg := [.sh (.one (.lit k1)), .sh (.one (.lit k2)), .io d, .sh (.one (.pt false cs)), .sh (.one (.pt false [.lit fv]))]
def Yx (d' : D) (e : Exit) (s : Nat -> AV) (_ : Nat) : Prop := (e = .normal \/ e = .ret) /\ s 2 = .own 2 d'
theorem Yx.ret {d1 d' : D} {s : Nat -> AV} {k : Nat} (h : s 2 = .own 2 d1) (h' : d1 = d') : Yx d' .ret s k := by subst h'; exact ⟨.inr rfl, h⟩
theorem Yx.normal {d1 d' : D} {s : Nat -> AV} {k : Nat} (h : s 2 = .own 2 d1) (h' : d1 = d') : Yx d' .normal s k := by subst h'; exact ⟨.inl rfl, h⟩
theorem Zuz {K : FuncId} {fn : Func} {c : Code} {k1 k2 : Value} {d d' : D} {cs : List D} (m : Nat) (hf : P.funcs[K]? = some fn) (hb : fn.body = some c) (hm : fn.ntmps = m) (hm5 : 5 <= m) (hres : fn.results = #[]) (hs : d'.solid = true) (o1 : k1.oneCell' = true) (o2 : k2.oneCell' = true)
  (h : ∀ vK vS vM r, WpA P ⟨fun t => decide (t < m) && !([2, 3, 4].contains t), [(2, vK), (3, vS), (4, vM)], [(2, r)], []⟩ c (X2 (Yh k1 k2 d cs (W9 K vK vS vM))) 5 (Yx d')) : Zj2 P K [k1, k2] d cs d' := by
 intro w vK vS vM M0 F r hF hv hvs hvm hnd hM
 refine calls_of_wp hf hb ?_
 have htmp : ∀ t, tmp { tmps := ([k1, k2] ++ [vK, vS, vM]).toArray ++ Array.replicate (fn.ntmps - ([k1, k2] ++ [vK, vS, vM]).toArray.size) undef, defers := [] } t = ([k1, k2, vK, vS, vM] : List Value).getD t undef := by
  intro t
  show tmp { tmps := ([k1, k2, vK, vS, vM] : List Value).toArray ++ Array.replicate (fn.ntmps - ([k1, k2, vK, vS, vM] : List Value).toArray.size) undef, defers := [] } t = _
  generalize ([k1, k2, vK, vS, vM] : List Value) = vs
  unfold tmp
  simp only [Array.getD_eq_getD_getElem?, List.getD_eq_getElem?_getD, Array.getElem?_append, List.size_toArray, List.getElem?_toArray, Array.getElem?_replicate]
  by_cases ht : t < vs.length
  ·simp [ht]
  ·simp only [ht, if_false]
   rw [List.getElem?_eq_none j2]
   split <;> rfl
 let nn : NN := ⟨fun t => decide (t < m) && !([2, 3, 4].contains t), [(2, vK), (3, vS), (4, vM)], [(2, r)], []⟩
 have hn0 : ∀ t, nn t = true -> t < fn.ntmps := fun t ht => by
  rw [hm]; simp only [nn, Bool.and_eq_true, decide_eq_true_eq] at ht; exact ht.1
 let f : Fr := { w0 := w, M := M0, N := nn, H := [(2, vK), (3, vS), (4, vM)], F := F, hF := hF, R := [(2, r)], hK := fun _ h => h, hR := fun _ h => h, hS := fun _ h => (List.not_mem_nil h).elim }
 let Ls : Nat -> List Nat := fun t => if t = 2 then M0 else []
 have hrep : Rep f (fun i => i < 5) (X2 (Yh k1 k2 d cs (W9 K vK vS vM))) { tmps := ([k1, k2] ++ [vK, vS, vM]).toArray ++ Array.replicate (fn.ntmps - ([k1, k2] ++ [vK, vS, vM]).toArray.size) undef, defers := [] } w := by
  refine ⟨fun _ => r, Ls, rfl, fun d hd => ?_, fun q hq => ?_, ⟨rfl, rfl, rfl, Nat.le_refl _, fun _ _ _ => rfl, Nat.le_refl _⟩, fun t => ?_, fun t => ?_, fun t u htu g hg hgu => ?_, fun t g hg => ?_, fun t i hi => ?_, fun t g hg => ?_, fun q hq => ?_⟩
  ·have := hn0 d hd
   simp
   omega
  ·have : q = (2, vK) \/ q = (3, vS) \/ q = (4, vM) := by simpa [f] using hq
   rw [htmp]
   rcases this with rfl | rfl | rfl <;> exact ⟨by simp [f, nn], rfl⟩
  ·rw [htmp t]
   match t with
   | 0 => simp only [X2, Yh, List.getElem?_cons_zero, Arg.av, SR, RD, Ls]; exact ⟨rfl, fun _ => undef, rfl, o1, trivial⟩
   | 1 => simp only [X2, Yh, List.getElem?_cons_succ, List.getElem?_cons_zero, Arg.av, SR, RD, Ls]; exact ⟨rfl, fun _ => undef, rfl, o2, trivial⟩
   | 2 => simp only [X2, Yh, List.getElem?_cons_succ, List.getElem?_cons_zero, Arg.av, SR, Ls, if_true]; exact hv
   | 3 =>
    simp only [X2, Yh, List.getElem?_cons_succ, List.getElem?_cons_zero, Arg.av, SR, Ls]
    obtain ⟨r', h1⟩ := hvs
    simp only [RD] at h1
    obtain ⟨_, b, us, e0, hb', hc', h5⟩ := h1
    exact ⟨rfl, b, us, r', by rw [Vi]; exact e0, hb', hc', h5⟩
   | 4 =>
    simp only [X2, Yh, List.getElem?_cons_succ, List.getElem?_cons_zero, Arg.av, SR, Ls]
    obtain ⟨r', h1⟩ := hvm
    simp only [RD] at h1
    obtain ⟨_, b, us, e0, hb', hc', h5⟩ := h1
    exact ⟨rfl, b, us, r', by rw [Vi]; exact e0, hb', hc', h5⟩
   | t + 5 => simp [X2, Yh, SR, Ls]
  ·simp only [Ls]; split
   ·exact hnd
   ·exact List.nodup_nil
  ·simp only [Ls] at hg hgu
   split at hg
   ·rename_i e
    rw [if_neg (fun e' => htu (e.trans e'.symm))] at hgu
    simp at hgu
   ·simp at hg
  ·simp only [Ls] at hg
   split at hg
   ·exact ⟨hM g hg, fun hf => (hF g hf).2 hg⟩
   ·simp at hg
  ·match t with
   | 0 => simp [X2, Yh, Arg.av, AV.ids] at hi
   | 1 => simp [X2, Yh, Arg.av, AV.ids] at hi
   | 2 => simp [X2, Yh, Arg.av, AV.ids] at hi; omega
   | 3 => simp [X2, Yh, Arg.av, AV.ids] at hi
   | 4 => simp [X2, Yh, Arg.av, AV.ids] at hi
   | t + 5 => simp [X2, Yh, AV.ids] at hi
  ·simp only [Ls] at hg
   split at hg
   ·exact .inl hg
   ·simp at hg
  ·have : q = (2, r) := by simpa [f] using hq
   subst this
   exact ⟨by show 2 < 5; omega, rfl⟩
 refine Code.wp_mono (fun e a' w' hq => ?_) (h vK vS vM r f _ w rfl (.of hrep))
 obtain ⟨s1, nx', ⟨he, h0⟩, ⟨f', kf, ρ', L', hr⟩⟩ := hq
 have hmine : ∀ g, (g ∈ f'.M \/ f'.w0.heap.size <= g) -> g ∈ M0 \/ w.heap.size <= g := fun g hg => by
  rcases hg with h1 | h1
  ·exact kf.M g h1
  ·exact .inr (Nat.le_trans kf.keep.size h1)
 have fin : bodyPost P fn (fun e w' => ∃ Lo, e = .returned (X9 []) /\ Zy w M0 w' /\ RD (Res true F) w' d' r vK Lo /\ Lo.Nodup /\ ∀ g ∈ Lo, g < w'.heap.size /\ (g ∈ M0 \/ w.heap.size <= g)) .ret a' w' := by
  have hsl := hr.slots 2
  rw [h0] at hsl
  simp only [SR] at hsl
  have hv0 : tmp a' 2 = vK := (hr.hold (2, vK) (by rw [kf.H]; simp [f])).2
  have hr0 : ρ' 2 = r := (hr.names (2, r) (by rw [kf.R]; simp [f])).2
  rw [hv0, hr0] at hsl
  refine ⟨hr.defers, X9 [], Ku (by rw [hres]; simp), L' 2, rfl, kf.keep.trans hr.keep (fun g hg hlt => by
   rcases hmine g (.inl hg) with h1 | h1
   ·exact h1
   ·have : f.w0 = w := rfl
    rw [this] at hlt
    omega), RD.solid d' r vK _ hsl hs, hr.nodup 2, fun g hg => ⟨(hr.bound 2 g hg).1, hmine g (hr.mine 2 g hg)⟩⟩
 rcases he with rfl | rfl
 ·exact fin
 ·exact fin
end
end Go.Pv
namespace Go.Pv
open Go.RowKit
section
variable {P : Program} {n : NN} {st : Nat -> AV} {nx : Nat} {Q : Exit -> (Nat -> AV) -> Nat -> Prop}
theorem WpA.recCall {id1 id2 : Nat} {K : FuncId} {T : TypeId} {ts : Array TypeId} {ty1 ty2 ty3 ty4 ty5 ty6 : TypeId} {pos1 pos2 pos3 pos4 pos5 pos6} {aft1 aft2 aft3 aft4 aft5 aft6} {k1 k2 : Value} {cs3 csS d7 d7' : List D} {c8 : D} {i7 i3 i8 : Nat} {rest : Code} [X6 P T] [Zs P K]
    (hc : Zj2 P K [k1, k2] (.pt true d7) csS (.pt true d7')) (h7 : st 7 = .own i7 (.pt true d7)) (h3 : st 3 = .own i3 (.pt true cs3)) (he : D.erases cs3 = csS) (h8 : st 8 = .own i8 (.pt true [c8])) (hx1 : st 2 = .c (.lit k1)) (hx2 : st 1 = .c (.lit k2))
    (n13 : n 13 = true) (n14 : n 14 = true) (n15 : n 15 = true) (n16 : n 16 = true) (n17 : n 17 = true)
    (hrest : WpA P n rest (Zn st [(8, .dead), (13, .dead), (14, .dead), (15, .dead), (16, .dead), (17, .dead), (7, .own nx (.pt true d7'))]) (nx + 1) Q) :
    WpA P n (.seq (.region id1 #[⟨some 13, .makeFunc (.func K) #[] #[.tmp 7, .tmp 3, .tmp 8], ty1, pos1, aft1, none⟩, ⟨none, .store T (.tmp 8) (.tmp 13), ty2, pos2, aft2, none⟩] false)
      (.seq (.region id2 #[⟨some 14, .load T (.tmp 8), ty3, pos3, aft3, none⟩, ⟨some 15, .move (.tmp 2), ty4, pos4, aft4, none⟩, ⟨some 16, .move (.tmp 1), ty5, pos5, aft5, none⟩, ⟨some 17, .call ⟨.value (.tmp 14), #[.tmp 15, .tmp 16], ts⟩, ty6, pos6, aft6, none⟩] false) rest)) st nx Q := by
  refine WpA.of0 ?_
  intro f a w hn hrep
  obtain ⟨ρ, L, h⟩ := hrep
  subst hn
  have k7 := h.slots 7
  rw [h7] at k7
  simp only [SR] at k7
  have k3 := h.slots 3
  rw [h3] at k3
  simp only [SR] at k3
  have k8 := h.slots 8
  rw [h8] at k8
  simp only [SR, RD] at k8
  obtain ⟨e8, g8, us, L1, ety, e8', eL8, hb8, hr8⟩ := k8
  simp only [RDs] at hr8
  obtain ⟨u8, us', L1a, L1b, rfl, eL1, _, rfl, rfl⟩ := hr8
  have e1 : tmp a 2 = k1 := Lit.eval h (x := .tmp 2) hx1
  have e2 : tmp a 1 = k2 := Lit.eval h (x := .tmp 1) hx2
  have o1 : k1.oneCell' = true := by
    have := h.slots 2
    rw [hx1] at this
    simp only [SR, RD] at this
    obtain ⟨_, r, _, this, _⟩ := this
    exact this
  generalize hfv : W9 K (tmp a 7) (tmp a 3) (tmp a 8) = fv
  have ofv : fv.oneCell' = true := by rw [<- hfv]; rfl
  have g8L : g8 ∈ L 8 := by rw [eL8]; simp
  have g8lt := (h.bound 8 g8 g8L).1
  -- the function value
  refine wp_seq (wp_region_lit (l := [_, _]) (wpList_plain rfl fun K1 hK1 => wV_ (u := fv) (w' := w) ?_ (hK1 _ _ (wpList_plain rfl fun K2 hK2 => Zay (w' := w.setCell ⟨g8, 0, none⟩ fv) ?_ (hK2 _ _ (wpList_nil ?_))))))
  · rw [<- hfv]
    simp [execOp, Instr.makeFunc]
    exact ⟨rfl, rfl, rfl⟩
  · have q8 : (a.put (some 13) fv).eval (.tmp 8) = .pointer (some ⟨g8, 0, none⟩) := by
      show tmp (a.put (some 13) fv) 8 = _
      rw [Zm _ _ _ _ (by decide), e8']
    have q13 : (a.put (some 13) fv).eval (.tmp 13) = fv := Z9 _ _ _ (h.size _ n13)
    simp only [execOp, q8, q13, Sem.run_bind, Zal w ⟨g8, 0, none⟩ u8 fv (by rw [cell_of_row w g8 0 _ ety (0, 0) hb8]; rfl) (by simp [World.frozen?, hb8]) ofv, Result.andThen_ok, Sem.run_pure]
  have hb8' : (w.setCell ⟨g8, 0, none⟩ fv).heap[g8]? = some (.cells #[fv] ety (0, 0)) := by
    rw [Uj w g8 0 fv _ ety _ hb8]; rfl
  have hk1 := Zy.setCell w g8 0 fv
  have hsz1 : (w.setCell ⟨g8, 0, none⟩ fv).heap.size = w.heap.size := by simp [World.setCell]
  have hs1 : ∀ g, g ≠ g8 -> Vh w (w.setCell ⟨g8, 0, none⟩ fv) g := fun g hg => Xj w g8 0 g fv hg
  have hne8 : ∀ t, t ≠ 8 -> ∀ g ∈ L t, g ≠ g8 := fun t ht g hg e => h.disj t 8 ht g hg (by rw [e]; exact g8L)
  have hF8 : ∀ g, f.F g -> g ≠ g8 := fun g hg e => (h.bound 8 g8 g8L).2 (by rw [<- e]; exact hg)
  generalize w.setCell ⟨g8, 0, none⟩ fv = w1 at *
  show (Code.seq _ _).wp P _ _ _
  -- the call
  refine wp_seq (wp_region_lit (l := [_, _, _, _]) (wpList_plain rfl fun K3 hK3 => wV_ (u := fv) (w' := w1) ?_ (hK3 _ _ (wpList_plain rfl fun K4 hK4 => wV_ (u := k1) (w' := w1) ?_ (hK4 _ _ (wpList_plain rfl fun K5 hK5 => wV_ (u := k2) (w' := w1) ?_ (hK5 _ _ (wpList_plain rfl fun K6 hK6 => ?_))))))))
  · have q8 : ((a.put (some 13) fv).put none undef).eval (.tmp 8) = .pointer (some ⟨g8, 0, none⟩) := by
      show tmp (a.put (some 13) fv) 8 = _
      rw [Zm _ _ _ _ (by decide), e8']
    simp only [execOp, q8, Sem.run_bind, Ys w1 ⟨g8, 0, none⟩ fv (by rw [cell_of_row w1 g8 0 _ ety (0, 0) hb8']; rfl), Result.andThen_ok, Sem.run_pure]
  · have q : tmp (((a.put (some 13) fv).put none undef).put (some 14) fv) 2 = k1 := by
      rw [Zm _ _ _ _ (by decide)]
      show tmp (a.put (some 13) fv) 2 = _
      rw [Zm _ _ _ _ (by decide)]; exact e1
    rw [<- q]; rfl
  · have q : tmp ((((a.put (some 13) fv).put none undef).put (some 14) fv).put (some 15) k1) 1 = k2 := by
      rw [Zm _ _ _ _ (by decide), Zm _ _ _ _ (by decide)]
      show tmp (a.put (some 13) fv) 1 = _
      rw [Zm _ _ _ _ (by decide)]; exact e2
    rw [<- q]; rfl
  generalize ha4 : ((((a.put (some 13) fv).put none undef).put (some 14) fv).put (some 15) k1).put (some 16) k2 = a4
  have s14 : 14 < (a.put (some 13) fv).tmps.size := by rw [X7]; exact h.size _ n14
  have s15 : 15 < a.tmps.size := h.size _ n15
  have s16 : 16 < a.tmps.size := h.size _ n16
  have s17 : 17 < a.tmps.size := h.size _ n17
  have z4 : a4.tmps.size = a.tmps.size := by rw [<- ha4]; simp [X7]
  have d4 : a4.defers = a.defers := by rw [<- ha4]; simp [X4]
  have t4 : ∀ t, t ≠ 13 -> t ≠ 14 -> t ≠ 15 -> t ≠ 16 -> tmp a4 t = tmp a t := fun t h1 h2 h3 h4 => by
    rw [<- ha4, Zm _ _ _ _ h4, Zm _ _ _ _ h3, Zm _ _ _ _ h2]
    show tmp (a.put (some 13) fv) t = _
    rw [Zm _ _ _ _ h1]
  have x14 : a4.eval (.tmp 14) = fv := by
    show tmp a4 14 = _
    rw [<- ha4, Zm _ _ _ _ (by decide), Zm _ _ _ _ (by decide)]
    exact Z9 _ _ _ (by simpa [X7] using h.size _ n14)
  have x15 : a4.eval (.tmp 15) = k1 := by
    show tmp a4 15 = _
    rw [<- ha4, Zm _ _ _ _ (by decide)]
    exact Z9 _ _ _ (by simpa [X7] using s15)
  have x16 : a4.eval (.tmp 16) = k2 := by
    show tmp a4 16 = _
    rw [<- ha4]
    exact Z9 _ _ _ (by simpa [X7] using s16)
  refine V6 (Wy (x := .tmp 14) a4.eval #[tmp a 7, tmp a 3, tmp a 8] (x14.trans hfv.symm) w1) ?_
  have ea : (#[Operand.tmp 15, Operand.tmp 16] : Array Operand).map a4.eval ++ #[tmp a 7, tmp a 3, tmp a 8] = ([k1, k2] ++ [tmp a 7, tmp a 3, tmp a 8]).toArray := by
    apply Array.ext'
    simp [x15, x16]
  rw [ea]
  let G : Nat -> Prop := fun g => g < w1.heap.size /\ g ∉ L 7
  have hG3 : ∀ g ∈ L 3, G g := fun g hg => ⟨by rw [hsz1]; exact (h.bound 3 g hg).1, h.disj 3 7 (by decide) g hg⟩
  have hGF : ∀ g, f.F g -> G g := fun g hg => ⟨by rw [hsz1]; exact h.F_lt hg, fun hm => (h.bound 7 g hm).2 hg⟩
  have hG8 : G g8 := ⟨by rw [hsz1]; exact g8lt, h.disj 8 7 (by decide) g8 g8L⟩
  have r7 : RD G w1 (.pt true d7) (ρ i7) (tmp a 7) (L 7) := RD.same hGF (fun g hg => hs1 g (hF8 g hg)) _ _ _ _ k7 (fun g hg => hs1 g (hne8 7 (by decide) g hg))
  have r3 : RD G w1 (.pt false csS) (ρ i3) (tmp a 3) [] := by
    have := RD.erase (F' := G) hGF _ _ _ _ (RD.same (fun _ h => h) (fun g hg => hs1 g (hF8 g hg)) _ _ _ _ k3 (fun g hg => hs1 g (hne8 3 (by decide) g hg))) hG3
    simpa only [D.erase, he] using this
  have r8 : ∃ r', RD G w1 (.pt false [.lit (W9 K (tmp a 7) (tmp a 3) (tmp a 8))]) r' (tmp a 8) [] := by
    rw [hfv]
    refine ⟨fun _ => undef, ?_⟩
    simp only [RD, RDs]
    refine ⟨trivial, ⟨g8, 0, none⟩, [fv], e8', hG8, fun j u hu => ?_, fv, [], [], [], rfl, rfl, ⟨rfl, ofv, rfl⟩, rfl, rfl⟩
    rw [Zmi, cell_of_row w1 g8 j _ ety (0, 0) hb8']
    simpa using hu
  refine (hc w1 (tmp a 7) (tmp a 3) (tmp a 8) (L 7) G (ρ i7) (fun g hg => hg) r7 ⟨_, r3⟩ r8 (h.nodup 7) (fun g hg => by rw [hsz1]; exact (h.bound 7 g hg).1)).mono ?_
  rintro e w2 ⟨Lo, rfl, hk2, hout, hnd, hL⟩
  refine ⟨_, rfl, hK6 _ _ (wpList_nil ?_)⟩
  generalize ha5 : a4.put (some 17) (X9 []) = a5
  have t5 : ∀ t, t ≠ 13 -> t ≠ 14 -> t ≠ 15 -> t ≠ 16 -> t ≠ 17 -> tmp a5 t = tmp a t := fun t h1 h2 h3 h4 h5 => by
    rw [<- ha5, Zm _ _ _ _ h5, t4 t h1 h2 h3 h4]
  refine hrest f a5 w2 rfl (.of ⟨fun i => if i = nx then ρ i7 else ρ i, fun s => if s = 7 then Lo else if s = 8 \/ (13 <= s /\ s <= 17) then [] else L s, ?_⟩)
  have hkk : Zy w (L 7 ++ L 8) w2 := by
    refine ⟨hk2.os.trans hk1.os, hk2.tape.trans hk1.tape, hk2.output.trans hk1.output, Nat.le_trans hk1.size hk2.size, fun g hg hm => ?_, Nat.le_trans hk1.drawn hk2.drawn⟩
    simp only [List.mem_append, not_or] at hm
    exact (hk2.block g (by rw [hsz1]; exact hg) hm.1).trans (hs1 g (fun e => hm.2 (by rw [e]; exact g8L)))
  refine h.step (fun t => t = 7 \/ t = 8 \/ (13 <= t /\ t <= 17)) (L 7 ++ L 8) _ _ _ w2 _ _ (by rw [<- ha5, X4, d4]) (by rw [<- ha5, X7, z4]) (fun t ht => t5 t (by rintro rfl; rw [n13] at ht; cases ht) (by rintro rfl; rw [n14] at ht; cases ht) (by rintro rfl; rw [n15] at ht; cases ht) (by rintro rfl; rw [n16] at ht; cases ht) (by rintro rfl; rw [n17] at ht; cases ht)) hkk (fun g hg => ?_) (fun i hi => by rw [if_neg j2]) (fun t ht => ?_) (fun t ht => ?_) (fun s u hs' hu hsu g hg hgu => ?_) (fun i hi => by omega) (fun t ht i hi => ?_)
  · rcases List.mem_append.1 hg with hg | hg
    · exact ⟨7, .inl rfl, hg⟩
    · exact ⟨8, .inr (.inl rfl), hg⟩
  · have n1 : t ≠ 7 := fun e => ht (.inl e)
    have n2 : t ≠ 8 := fun e => ht (.inr (.inl e))
    have n3 : ¬ (13 <= t /\ t <= 17) := fun e => ht (.inr (.inr e))
    refine ⟨?_, t5 t j2 j2 j2 j2 j2, ?_⟩
    · simp only [Zn]
      rw [Zi _ _ _ _ n1, Zi _ _ _ _ j2, Zi _ _ _ _ j2, Zi _ _ _ _ j2, Zi _ _ _ _ j2, Zi _ _ _ _ j2, Zi _ _ _ _ n2]
    · simp only [if_neg n1]
      rw [if_neg (fun e => e.elim n2 n3)]
  · by_cases e7 : t = 7
    · subst e7
      simp only [Zn, Zo, SR, if_true]
      rw [t5 7 (by decide) (by decide) (by decide) (by decide) (by decide)]
      refine ⟨RD.same (fun g hg => by cases hg.1) (fun g hg => by cases hg.1) _ _ _ Lo hout (fun _ _ => rfl), hnd, fun g hg => ⟨(hL g hg).1, ?_⟩⟩
      rcases (hL g hg).2 with h' | h'
      · exact .inl ⟨7, .inl rfl, h'⟩
      · exact .inr (by rw [<- hsz1]; exact h')
    · have hd : t = 8 \/ (13 <= t /\ t <= 17) := ht.resolve_left e7
      have hst : Zn st [(8, .dead), (13, .dead), (14, .dead), (15, .dead), (16, .dead), (17, .dead), (7, .own nx (.pt true d7'))] t = .dead := by
        simp only [Zn, put, if_neg e7]
        repeat (split; · rfl)
        omega
      rw [hst, if_neg e7, if_pos hd]
      exact ⟨by simp only [SR], List.nodup_nil, fun g hg => by simp at hg⟩
  · by_cases hsx : s = 7
    · have hu0 : u ≠ 7 := fun e => hsu (hsx.trans e.symm)
      rw [if_neg hu0, if_pos (hu.resolve_left hu0)] at hgu
      simp at hgu
    · rw [if_neg hsx, if_pos (hs'.resolve_left hsx)] at hg
      simp at hg
  · by_cases e7 : t = 7
    · subst e7
      simp only [Zn, Zo, AV.ids, List.mem_singleton] at hi
      omega
    · have hd : t = 8 \/ (13 <= t /\ t <= 17) := ht.resolve_left e7
      have hst : Zn st [(8, .dead), (13, .dead), (14, .dead), (15, .dead), (16, .dead), (17, .dead), (7, .own nx (.pt true d7'))] t = .dead := by
        simp only [Zn, put, if_neg e7]
        repeat (split; · rfl)
        omega
      rw [hst] at hi
      simp [AV.ids] at hi
end
end Go.Pv
