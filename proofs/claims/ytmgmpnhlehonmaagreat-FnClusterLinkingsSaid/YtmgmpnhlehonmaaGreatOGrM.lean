/- The program's walk through a forest, and F and G of all vertices. No condition. -/
import Derived.Test.YtmgmpnhlehonmaaGreatOGrJ
import Derived.Test.YtmgmpnhlehonmaaGreatOGrU
set_option linter.unusedVariables false
set_option linter.unusedSimpArgs false
namespace Go.Proofs.YtmgmpnhlehonmaaGreat
set_option maxHeartbeats 20000000
open Go.Pv
open Go.ChangeShapes Go.WideShapes Go.ChangeAt Go.RowKit
attribute [local irreducible] RunU WpA Step CallG CallNG Done DoneN
instance fnOk77 : FnOk Tryz.prog 77 := ⟨_, Tryz.func77, rfl, by decide⟩
instance fnOk78 : FnOk Tryz.prog 78 := ⟨_, Tryz.func78, rfl, by decide⟩
instance fnOk188 : FnOk Tryz.prog 188 := ⟨_, Tryz.func188, rfl, by decide⟩
def nbL (E : List (List Int)) (n : Nat) : List (List Int) := (List.range n).map fun i : Nat => near E i
theorem nbL_len (E : List (List Int)) (n : Nat) : (nbL E n).length = n := by simp [nbL]
theorem nbL_at (E : List (List Int)) {n i : Nat} (h : i < n) : (nbL E n).getD i [] = near E i := by simp [nbL, List.getD, h]
theorem apN_perm {n : Nat} {E : List (List Int)} (hg : GoodE n E) (v : Int) : ∀ j, j ≤ E.length → (apN E v j).Perm (lowN E v j ++ uppN E v j)
 | 0, _ => List.Perm.refl _
 | j + 1, hj => by
  have ih := apN_perm hg v j (by omega)
  have g := (hg j (by omega)).2.1
  rw [apN, lowN, uppN]
  by_cases h1 : ea E j = v
  ·rw [if_pos h1, if_neg (by omega), if_pos h1, ← List.append_assoc]
   exact List.Perm.append_right _ ih
  ·rw [if_neg h1]
   by_cases h2 : eb E j = v
   ·rw [if_pos h2, if_pos h2, if_neg h1, List.append_assoc]
    refine (List.Perm.append_right _ ih).trans ?_
    rw [List.append_assoc]
    exact List.Perm.append_left _ List.perm_append_comm
   ·rw [if_neg h2, if_neg h2, if_neg h1]
    exact ih
theorem adj_srt {n : Nat} {E : List (List Int)} (hg : GoodE n E) : (adjL E n E.length).map srt = nbL E n := by
 unfold adjL nbL
 rw [List.map_map]
 refine List.map_congr_left fun i _ => ?_
 have h1 : (srt (apN E i E.length)).Perm (apN E i E.length) := List.mergeSort_perm _ _
 refine sort_unique (h1.trans (apN_perm hg i E.length (Nat.le_refl _))) (srt_sorted _) ((near_sorted hg i).imp fun h => by omega)
theorem nbrs_c (w : List Int) (E : List (List Int)) (hg : IsGr w E) : CallA Tryz.prog 96 [aGr w E] [rLL (nbL E w.length)] [] := by
 have h1 := hg.few
 have h2 := hg.1
 rw [← adj_srt hg.2.2.1]
 exact neighbours_c w E (by omega) (by omega) hg.2.2.1
theorem times_c (a b : Int) (ha : -1000000000000 ≤ a ∧ a ≤ 1000000000000) (hb : -1000000000000 ≤ b ∧ b ≤ 1000000000000) : CallA Tryz.prog 77 [aI a, aI b] [rI (tms a b).1, rB (tms a b).2] [] := by
 have hle := tms_le (a := a) (b := b)
 have hdef : tms a b = if a = 0 ∨ b = 0 then (0, true) else if 1000000000000 / (b.natAbs : Int) < (a.natAbs : Int) then (0, false) else (a * b, true) := rfl
 by_cases h0 : a = 0 ∨ b = 0
 ·rw [if_pos h0] at hdef
  rw [hdef]
  refine cA_ _ Tryz.func77 rfl Tryz.ntmps77 sO_ ?_
  repeat' (first | (refine Two.mk ?_ ?_ <;> intro _) | (guard_target =~ CallN_; first | refine RunU.cons (sC_ (abs_c a (by omega)) (.sh .nil) (.sh wS_ .nil) rfl) ?_ | refine RunU.cons (sC_ (abs_c b (by omega)) (.sh .nil) (.sh wS_ .nil) rfl) ?_) | refine goA ?_ | (guard_target =~ IsG; first | refine psA ?_ | refine gdA ?_) | refine nxA ?_ | refine Done.ret (.one rA_ (.one rA_ .nil)) (.sh (.sh .nil)) ?_ rfl)
  all_goals first | rfl | (exfalso; omega)
 ·rw [if_neg h0] at hdef
  by_cases h1 : 1000000000000 / (b.natAbs : Int) < (a.natAbs : Int)
  ·rw [if_pos h1] at hdef
   rw [hdef]
   refine cA_ _ Tryz.func77 rfl Tryz.ntmps77 sO_ ?_
   repeat' (first | (refine Two.mk ?_ ?_ <;> intro _) | (guard_target =~ CallN_; first | refine RunU.cons (sC_ (abs_c a (by omega)) (.sh .nil) (.sh wS_ .nil) rfl) ?_ | refine RunU.cons (sC_ (abs_c b (by omega)) (.sh .nil) (.sh wS_ .nil) rfl) ?_) | refine goA ?_ | (guard_target =~ IsG; first | refine psA ?_ | refine gdA ?_) | refine nxA ?_ | refine Done.ret (.one rA_ (.one rA_ .nil)) (.sh (.sh .nil)) ?_ rfl)
   all_goals first | rfl | (exfalso; omega)
  ·rw [if_neg h1] at hdef
   have hm : -1000000000000 ≤ a * b ∧ a * b ≤ 1000000000000 := by rw [hdef] at hle; omega
   rw [hdef]
   clear hdef hle
   refine cA_ _ Tryz.func77 rfl Tryz.ntmps77 sO_ ?_
   repeat' (first | (refine Two.mk ?_ ?_ <;> intro _) | (guard_target =~ CallN_; first | refine RunU.cons (sC_ (abs_c a (by omega)) (.sh .nil) (.sh wS_ .nil) rfl) ?_ | refine RunU.cons (sC_ (abs_c b (by omega)) (.sh .nil) (.sh wS_ .nil) rfl) ?_) | refine goA ?_ | (guard_target =~ IsG; first | refine psA ?_ | refine gdA ?_) | refine nxA ?_ | refine Done.ret (.one rA_ (.one rA_ .nil)) (.sh (.sh .nil)) ?_ rfl)
   all_goals first | rfl | (exfalso; omega)
theorem isValue_c (x : Int) : CallA Tryz.prog 78 [aI x] [rB (decide (-1000000000000 ≤ x ∧ x ≤ 1000000000000))] [] := by
 refine cA_ _ Tryz.func78 rfl Tryz.ntmps78 sO_ ?_
 repeat' (first | (refine Two.mk ?_ ?_ <;> intro _) | (guard_target =~ CallN_; first | refine RunU.cons (sC_ (inRange_c _ _ _) (.sh (.sh (.sh .nil))) (.sh wS_ (.sh wS_ (.sh wS_ .nil))) rfl) ?_) | refine goA ?_ | refine nxA ?_ | refine Done.ret (.one rA_ .nil) (.sh .nil) ?_ rfl)
 all_goals rfl
abbrev dWk (w : List Int) (N : List (List Int)) (s : VS) : D := .pt true [.sl false 1 (ints w), .sl true 1 (LL N), .sl true 1 (ints s.f), .sl true 1 (ints s.g), .sl true 1 (bools s.seen), .lit (.bool s.large)]
def stP (p r f g : Int) : Int := if okS p r f g = true then p * f else 0
def stR (p r f g : Int) : Int := if okS p r f g = true then r * f - p * g else 0
def stL (p r f g : Int) (b : Bool) : Bool := if okS p r f g = true then b else true
theorem step_c (w : List Int) (N : List (List Int)) (f g : List Int) (sn : List Bool) (lg : Bool) (p r x y : Int) (hp : -1000000000000 ≤ p ∧ p ≤ 1000000000000) (hr : -1000000000000 ≤ r ∧ r ≤ 1000000000000) (hx : -1000000000000 ≤ x ∧ x ≤ 1000000000000) (hy : -1000000000000 ≤ y ∧ y ≤ 1000000000000) :
  CallNS Tryz.prog 188 (dWk w N ⟨f, g, sn, lg⟩) [aI p, aI r, aI x, aI y] [rI (stP p r x y), rI (stR p r x y)] (dWk w N ⟨f, g, sn, stL p r x y lg⟩) := by
 have l1 := tms_le (a := r) (b := x)
 have l2 := tms_le (a := p) (b := y)
 have l3 := tms_le (a := p) (b := x)
 have hok : okS p r x y = true ↔ (tms r x).2 = true ∧ (tms p y).2 = true ∧ (tms p x).2 = true ∧ (-1000000000000 ≤ (tms r x).1 - (tms p y).1 ∧ (tms r x).1 - (tms p y).1 ≤ 1000000000000) := by
  simp only [okS, Bool.and_eq_true, decide_eq_true_eq, and_assoc]
 by_cases ho : okS p r x y = true
 ·obtain ⟨q1, q2, q3⟩ := okS_parts ho
  have e1 : stP p r x y = (tms p x).1 := by rw [stP, if_pos ho, q3]
  have e2 : stR p r x y = (tms r x).1 - (tms p y).1 := by rw [stR, if_pos ho, q1, q2]
  have e3 : stL p r x y lg = lg := by rw [stL, if_pos ho]
  rw [e1, e2, e3]
  have hk := hok.1 ho
  clear hok
  refine cN_ _ Tryz.func188 rfl Tryz.ntmps188 ?_
  repeat' (first | (refine Two.mk ?_ ?_ <;> intro _) | (guard_target =~ CallN_; first | refine RunU.cons (sC_ (times_c r x hr hx) (.sh (.sh .nil)) (.sh wS_ (.sh wS_ .nil)) rfl) ?_ | refine RunU.cons (sC_ (times_c p y hp hy) (.sh (.sh .nil)) (.sh wS_ (.sh wS_ .nil)) rfl) ?_ | refine RunU.cons (sC_ (times_c p x hp hx) (.sh (.sh .nil)) (.sh wS_ (.sh wS_ .nil)) rfl) ?_ | refine RunU.cons (sC_ (isValue_c _) (.sh .nil) (.sh wS_ .nil) rfl) ?_) | refine goA ?_ | (guard_target =~ IsG; first | refine psA ?_ | (guard_target =~ CallS_; first | refine RunU.doit rfl rfl (sC_ (times_c r x hr hx) (.sh (.sh .nil)) (.sh wS_ (.sh wS_ .nil)) rfl) ?_ | refine RunU.doit rfl rfl (sC_ (times_c p y hp hy) (.sh (.sh .nil)) (.sh wS_ (.sh wS_ .nil)) rfl) ?_ | refine RunU.doit rfl rfl (sC_ (times_c p x hp hx) (.sh (.sh .nil)) (.sh wS_ (.sh wS_ .nil)) rfl) ?_ | refine RunU.doit rfl rfl (sC_ (isValue_c _) (.sh .nil) (.sh wS_ .nil) rfl) ?_) | refine gdA ?_) | refine nxA ?_ | ((first | refine DoneN.ret (.one rA_ (.one rA_ .nil)) rfl ?_ ?_ | refine DoneN.normal (.one rA_ (.one rA_ .nil)) rfl ?_ ?_) <;> try exact rfl))
  all_goals first | rfl | (exfalso; simp_all; done) | (exfalso; simp_all; omega)
 ·have e1 : stP p r x y = 0 := by rw [stP, if_neg ho]
  have e2 : stR p r x y = 0 := by rw [stR, if_neg ho]
  have e3 : stL p r x y lg = true := by rw [stL, if_neg ho]
  rw [e1, e2, e3]
  rw [hok] at ho
  clear hok
  refine cN_ _ Tryz.func188 rfl Tryz.ntmps188 ?_
  repeat' (first | (refine Two.mk ?_ ?_ <;> intro _) | (guard_target =~ CallN_; first | refine RunU.cons (sC_ (times_c r x hr hx) (.sh (.sh .nil)) (.sh wS_ (.sh wS_ .nil)) rfl) ?_ | refine RunU.cons (sC_ (times_c p y hp hy) (.sh (.sh .nil)) (.sh wS_ (.sh wS_ .nil)) rfl) ?_ | refine RunU.cons (sC_ (times_c p x hp hx) (.sh (.sh .nil)) (.sh wS_ (.sh wS_ .nil)) rfl) ?_ | refine RunU.cons (sC_ (isValue_c _) (.sh .nil) (.sh wS_ .nil) rfl) ?_) | refine goA ?_ | (guard_target =~ IsG; first | refine psA ?_ | (guard_target =~ CallS_; first | refine RunU.doit rfl rfl (sC_ (times_c r x hr hx) (.sh (.sh .nil)) (.sh wS_ (.sh wS_ .nil)) rfl) ?_ | refine RunU.doit rfl rfl (sC_ (times_c p y hp hy) (.sh (.sh .nil)) (.sh wS_ (.sh wS_ .nil)) rfl) ?_ | refine RunU.doit rfl rfl (sC_ (times_c p x hp hx) (.sh (.sh .nil)) (.sh wS_ (.sh wS_ .nil)) rfl) ?_ | refine RunU.doit rfl rfl (sC_ (isValue_c _) (.sh .nil) (.sh wS_ .nil) rfl) ?_) | refine gdA ?_) | refine nxA ?_ | ((first | refine DoneN.ret (.one rA_ (.one rA_ .nil)) rfl ?_ ?_ | refine DoneN.normal (.one rA_ (.one rA_ .nil)) rfl ?_ ?_) <;> try exact rfl))
  all_goals first | rfl | (exfalso; simp_all; done) | (exfalso; simp_all; omega)
instance fnOk171 : FnOk Tryz.prog 171 := ⟨_, Tryz.func171, rfl, by decide⟩
theorem visT_eq (vs : VS → Int → VS) (q : VS × Int × Int) (c : Int) (h : q.1.sn c = false) :
  visT vs q c = (⟨(vs q.1 c).f, (vs q.1 c).g, (vs q.1 c).seen, stL q.2.1 q.2.2 ((vs q.1 c).fa c) ((vs q.1 c).ga c) (vs q.1 c).large⟩, stP q.2.1 q.2.2 ((vs q.1 c).fa c) ((vs q.1 c).ga c), stR q.2.1 q.2.2 ((vs q.1 c).fa c) ((vs q.1 c).ga c)) := by
 unfold visT stP stR stL
 rw [if_neg (by rw [h]; decide)]
 split <;> rfl
theorem foldl_take {α : Type} {f : α → Int → α} {l : List Int} {j : Nat} (h : j < l.length) (a : α) : (l.take (j + 1)).foldl f a = f ((l.take j).foldl f a) (l.getD j 0) := by
 rw [List.take_add_one, List.getElem?_eq_getElem h, List.foldl_append]
 simp [List.getD, h]
theorem own_wk {id : Nat} {w w' : List Int} {N N' : List (List Int)} {s s' : VS} (h1 : w = w') (h2 : N = N') (h3 : s.f = s'.f) (h4 : s.g = s'.g) (h5 : s.seen = s'.seen) (h6 : s.large = s'.large) : AV.own id (dWk w N s) = AV.own id (dWk w' N' s') := by
 cases s; cases s'; simp only at h3 h4 h5 h6; subst h1 h2 h3 h4 h5 h6; rfl
theorem visit_c {w : List Int} {E : List (List Int)} (hg : IsGr w E) : ∀ (k : Nat) (s : VS) (v : Int), VSn w.length s → VSb s → (0 ≤ v ∧ v < w.length) → cntU s.seen ≤ k → s.sn v = false →
  CallNS Tryz.prog 171 (dWk w (nbL E w.length) s) [aI v] [] (dWk w (nbL E w.length) (vis w E k s v))
 | 0, s, v, hn, hb, hv, hk, hsn => by
  have := cntU_set s.seen v.toNat (by rw [hn.2.2]; omega) hsn
  omega
 | k + 1, s, v, hn, hb, hv, hk, hsn => by
  have IH := visit_c hg k
  have hcnt := cntU_set s.seen v.toNat (by rw [hn.2.2]; omega) hsn
  have hw := hg.2.1
  have hwv := hw v.toNat (by omega)
  have hlen : w.length ≤ 40 := hg.1.2
  have hwall : ∀ i, -1000 ≤ w.getD i 0 ∧ w.getD i 0 ≤ 1000 := fun i => by
   by_cases hi : i < w.length
   ·exact hw i hi
   ·rw [List.getD_eq_getElem?_getD, List.getElem?_eq_none (by omega)]; decide
  have hNl := nbL_len E w.length
  have hNv : (nbL E w.length).getD (v.toNat * 1) [] = near E v := by
   rw [Nat.mul_one, nbL_at E (by omega)]; congr 1; omega
  have hrl := near_le hg.2.2.1 v
  have hrin : ∀ j, j < (near E v).length → 0 ≤ (near E v).getD j 0 ∧ (near E v).getD j 0 < w.length := fun j hj => near_in hg.2.2.1 (getD_mem hj)
  -- the state behind j neighbours
  let st0 : VS × Int × Int := ({ s with seen := s.seen.set v.toNat true }, 1, -(w.getD v.toNat 0))
  have hst : ∀ j, Inv w.length st0.1 (((near E v).take j).foldl (visT (vis w E k)) st0).1 ∧ PrB (((near E v).take j).foldl (visT (vis w E k)) st0).2 := fun j =>
   visL_inv (n := w.length) (fun s v a b => vis_inv (E := E) hwall k s v a b) ((near E v).take j) st0 ⟨hn.1, hn.2.1, by simp [st0, hn.2.2]⟩ hb ⟨prB1, by have := hwall v.toNat; show -1000000000000 ≤ -(w.getD v.toNat 0) ∧ -(w.getD v.toNat 0) ≤ 1000000000000; omega⟩
  have hfin : vis w E (k + 1) s v = { (((near E v).take (near E v).length).foldl (visT (vis w E k)) st0).1 with
    f := (((near E v).take (near E v).length).foldl (visT (vis w E k)) st0).1.f.set v.toNat (((near E v).take (near E v).length).foldl (visT (vis w E k)) st0).2.2
    g := (((near E v).take (near E v).length).foldl (visT (vis w E k)) st0).1.g.set v.toNat (((near E v).take (near E v).length).foldl (visT (vis w E k)) st0).2.1 } := by
   rw [List.take_length]; rfl
  rw [hfin]
  obtain ⟨n1, n2, n3⟩ := hn
  have q0 : ((near E v).take 0).foldl (visT (vis w E k)) st0 = st0 := by simp
  have hwv2 : -1000 ≤ w.getD (v.toNat * 1) 0 ∧ w.getD (v.toNat * 1) 0 ≤ 1000 := hwall _
  have hNr : ((nbL E w.length).getD (v.toNat * 1) []).length = (near E v).length := by rw [hNv]
  refine cN_ _ Tryz.func171 rfl Tryz.ntmps171 ?_
  clear hfin
  repeat' (first | (guard_target =~ WpA _ _ _ _ _ _; first | refine WpA.seq ?_ | refine WpA.drawU ?_ | refine WpA.regionU ?_ | refine WpA.block ?_ | refine WpA.ret ?_ | refine WpA.skip ?_ | refine WpA.exit ?_ | refine WpA.cond_true rfl ?_ | refine WpA.cond_false rfl ?_ | refine WpA.cond_ntrue rfl ?_ | refine WpA.cond_dec rfl (fun _ => ?_) (fun _ => ?_) | refine WpA.cond_not rfl (fun _ => ?_) (fun _ => ?_) | refine WpA.cond rfl (fun _ => ?_) (fun _ => ?_)) | (guard_target =~ RunU _ _ _ _ [] _ _ _ _; first | refine RunU.nilL ?_ | refine RunU.nilD (by kernel_rfl) ?_) | (guard_target =~ RunU _ _ _ _ (Oper.mk _ _ _ _ _ none :: _) _ _ _ _; refine RunU.cons step_any ?_) | refine Then.next ?_ | refine InBlock.next ?_ | ((first | refine DoneN.ret .nil rfl ?_ ?_ | refine DoneN.normal .nil rfl ?_ ?_) <;> try exact rfl))
  refine WpA.loop_slots (ι := Nat) (fun j => [(0, .own 0 (dWk w (nbL E w.length) (((near E v).take j).foldl (visT (vis w E k)) st0).1)), (1, vGI v), (4, vGI (((near E v).take j).foldl (visT (vis w E k)) st0).2.1), (5, vGI (((near E v).take j).foldl (visT (vis w E k)) st0).2.2), (28, .als 0 0 (([] ++ [0 + 1]) ++ [v.toNat * 1])), (29, vGI (near E v).length), (30, vGI j)]) (fun j => j ≤ (near E v).length) (fun j => (near E v).length - j) 0 (by omega) ⟨?_, rfl, ?_, ?_, rfl, ?_, rfl, trivial⟩ ?_
  ·rw [q0]; exact own_wk (s := ⟨s.f, s.g, s.seen.set (v.toNat * 1) true, s.large⟩) rfl rfl rfl rfl (by rw [Nat.mul_one]) rfl
  ·rw [q0]; rfl
  ·rw [q0]; exact int_eq (by rw [Nat.mul_one])
  ·exact int_eq (by rw [hNr])
  intro j s2 nx hj
  obtain ⟨⟨ln, hb2, hmono⟩, hp⟩ := hst j
  by_cases hlt : j < (near E v).length
  ·have hnext := foldl_take (f := visT (vis w E k)) hlt st0
   generalize hq : List.foldl (visT (vis w E k)) st0 (List.take j (near E v)) = q at *
   obtain ⟨⟨f, g, sn, lg⟩, p, r⟩ := q
   have hcn : cntU sn ≤ k := by
    have := cntU_mono st0.1.seen sn (by rw [ln.2.2]; simp [st0, n3]) hmono
    have e : cntU st0.1.seen + 1 = cntU s.seen := hcnt
    omega
   have hcr := hrin j hlt
   have hce : ((nbL E w.length).getD (v.toNat * 1) []).getD (j * 1) 0 = (near E v).getD j 0 := by rw [hNv, Nat.mul_one]
   rw [← hce] at hcr hnext
   obtain ⟨l1, l2, l3⟩ := ln
   simp only at l1 l2 l3
   obtain ⟨hp1, hp2⟩ := hp
   simp only at hp1 hp2
   generalize hc : ((nbL E w.length).getD (v.toNat * 1) []).getD (j * 1) 0 = c at hcr hnext
   cases hsc : sn.getD (c.toNat * 1) false with
   | true =>
    have hne : visT (vis w E k) (⟨f, g, sn, lg⟩, p, r) c = (⟨f, g, sn, lg⟩, p, r) := by
     unfold visT
     rw [if_pos (show VS.sn ⟨f, g, sn, lg⟩ c = true by unfold VS.sn; rw [← Nat.mul_one c.toNat]; exact hsc)]
    rw [hne] at hnext
    subst hc
    clear hst hmono hb2
    repeat' (first | (guard_target =~ WpA _ _ _ _ _ _; first | refine WpA.seq ?_ | refine WpA.drawU ?_ | refine WpA.regionU ?_ | refine WpA.block ?_ | refine WpA.ret ?_ | refine WpA.skip ?_ | refine WpA.exit ?_ | refine WpA.cond_true rfl ?_ | refine WpA.cond_false rfl ?_ | refine WpA.cond_ntrue rfl ?_ | refine WpA.cond_dec rfl (fun _ => ?_) (fun _ => ?_) | refine WpA.cond_not rfl (fun _ => ?_) (fun _ => ?_) | refine WpA.cond rfl (fun _ => ?_) (fun _ => ?_)) | (guard_target =~ RunU _ _ _ _ [] _ _ _ _; first | refine RunU.nilL ?_ | refine RunU.nilD (by kernel_rfl) ?_) | (guard_target =~ RunU _ _ _ _ (Oper.mk _ _ _ _ _ none :: _) _ _ _ _; refine RunU.cons step_any ?_) | refine Then.next ?_ | refine InBlock.next ?_ | ((first | refine DoneN.ret .nil rfl ?_ ?_ | refine DoneN.normal .nil rfl ?_ ?_) <;> try exact rfl))
    all_goals try (exfalso; simp_all; done)
    all_goals try (exfalso; omega)
    refine ⟨j + 1, by omega, ?_, by omega⟩
    rw [hnext]
    exact ⟨rfl, rfl, rfl, rfl, rfl, rfl, int_eq (by omega), trivial⟩
   | false =>
    have hsn2 : VS.sn ⟨f, g, sn, lg⟩ c = false := by unfold VS.sn; rw [← Nat.mul_one c.toNat]; exact hsc
    have hinv := vis_inv (E := E) hwall k ⟨f, g, sn, lg⟩ c ⟨l1, l2, l3⟩ hb2
    have hV := IH ⟨f, g, sn, lg⟩ c ⟨l1, l2, l3⟩ hb2 hcr hcn hsn2
    rw [visT_eq _ _ _ hsn2] at hnext
    simp only [VS.fa, VS.ga] at hnext
    rw [← Nat.mul_one c.toNat] at hnext
    generalize hs1 : vis w E k ⟨f, g, sn, lg⟩ c = s1 at *
    obtain ⟨f1, g1, sn1, lg1⟩ := s1
    obtain ⟨⟨m1, m2, m3⟩, ⟨b1, b2⟩, _⟩ := hinv
    simp only at m1 m2 m3 b1 b2 hnext
    have b3 := b1 (c.toNat * 1)
    have b4 := b2 (c.toNat * 1)
    have hS := step_c w (nbL E w.length) f1 g1 sn1 lg1 p r (f1.getD (c.toNat * 1) 0) (g1.getD (c.toNat * 1) 0) hp1 hp2 b3 b4
    subst hc
    clear hst hmono hb2 b1 b2 IH hs1
    repeat' (first | (guard_target =~ WpA _ _ _ _ _ _; first | refine WpA.seq ?_ | refine WpA.drawU ?_ | refine WpA.regionU ?_ | refine WpA.block ?_ | refine WpA.ret ?_ | refine WpA.skip ?_ | refine WpA.exit ?_ | refine WpA.cond_true rfl ?_ | refine WpA.cond_false rfl ?_ | refine WpA.cond_ntrue rfl ?_ | refine WpA.cond_dec rfl (fun _ => ?_) (fun _ => ?_) | refine WpA.cond_not rfl (fun _ => ?_) (fun _ => ?_) | refine WpA.cond rfl (fun _ => ?_) (fun _ => ?_)) | (guard_target =~ RunU _ _ _ _ [] _ _ _ _; first | refine RunU.nilL ?_ | refine RunU.nilD (by kernel_rfl) ?_) | (guard_target =~ RunU _ _ _ _ (Oper.mk _ (Op.call ⟨Callee.value _, _, _⟩) _ _ _ none :: _) _ _ _ _; first | refine RunU.cons (step_call_ioS0 (hV) iA (.sh .nil) (.sh lcA .nil) xR_ xR_ rfl) ?_ | refine RunU.cons (step_call_ioS2 (hS) iA (.sh (.sh (.sh (.sh .nil)))) (.sh lcA (.sh lcA (.sh lcA (.sh lcA .nil)))) xR_ xR_ rfl) ?_) | (guard_target =~ RunU _ _ _ _ (Oper.mk _ _ _ _ _ none :: _) _ _ _ _; refine RunU.cons step_any ?_) | refine Then.next ?_ | refine InBlock.next ?_ | ((first | refine DoneN.ret .nil rfl ?_ ?_ | refine DoneN.normal .nil rfl ?_ ?_) <;> try exact rfl))
    all_goals try (exfalso; simp_all; done)
    all_goals try (exfalso; omega)
    refine ⟨j + 1, by omega, ?_, by omega⟩
    rw [hnext]
    exact ⟨rfl, rfl, rfl, rfl, rfl, rfl, int_eq (by omega), trivial⟩
  ·have ej : j = (near E v).length := by omega
   subst ej
   generalize hq : List.foldl (visT (vis w E k)) st0 (List.take (near E v).length (near E v)) = q at *
   obtain ⟨⟨f, g, sn, lg⟩, p, r⟩ := q
   obtain ⟨l1, l2, l3⟩ := ln
   simp only at l1 l2 l3
   obtain ⟨hp1, hp2⟩ := hp
   simp only at hp1 hp2
   clear hst hmono hb2 IH
   repeat' (first | (guard_target =~ WpA _ _ _ _ _ _; first | refine WpA.seq ?_ | refine WpA.drawU ?_ | refine WpA.regionU ?_ | refine WpA.block ?_ | refine WpA.ret ?_ | refine WpA.skip ?_ | refine WpA.exit ?_ | refine WpA.cond_true rfl ?_ | refine WpA.cond_false rfl ?_ | refine WpA.cond_ntrue rfl ?_ | refine WpA.cond_dec rfl (fun _ => ?_) (fun _ => ?_) | refine WpA.cond_not rfl (fun _ => ?_) (fun _ => ?_) | refine WpA.cond rfl (fun _ => ?_) (fun _ => ?_)) | (guard_target =~ RunU _ _ _ _ [] _ _ _ _; first | refine RunU.nilL ?_ | refine RunU.nilD (by kernel_rfl) ?_) | (guard_target =~ RunU _ _ _ _ (Oper.mk _ _ _ _ _ none :: _) _ _ _ _; refine RunU.cons step_any ?_) | refine Then.next ?_ | refine InBlock.next ?_ | ((first | refine DoneN.ret .nil rfl ?_ ?_ | refine DoneN.normal .nil rfl ?_ ?_) <;> try exact rfl))
   all_goals try (exfalso; omega)
   all_goals (rw [Nat.mul_one]; rfl)
end Go.Proofs.YtmgmpnhlehonmaaGreat
