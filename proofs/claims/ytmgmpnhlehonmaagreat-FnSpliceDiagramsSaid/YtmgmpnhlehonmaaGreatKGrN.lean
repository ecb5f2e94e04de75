/- The program's walk through a forest, and F and G of all vertices. No condition. -/
import Derived.Test.YtmgmpnhlehonmaaGreatKGrH
import Derived.Test.YtmgmpnhlehonmaaGreatKGrG
set_option linter.unusedVariables false
set_option linter.unusedSimpArgs false
namespace Go.Proofs.YtmgmpnhlehonmaaGreat
set_option maxHeartbeats 20000000
open Go.Pv
open Go.ChangeShapes Go.WideShapes Go.ChangeAt Go.RowKit
attribute [local irreducible] RunU WpA Step CallG CallNG Done DoneN
instance fnOk171 : FnOk Tryz.prog 171 := ⟨_, Tryz.func171, rfl, by decide⟩
theorem visT_eq (vs : VS → Int → VS) (q : VS × Int × Int) (c : Int) (h : q.1.sn c = false) :
  visT vs q c = (⟨(vs q.1 c).f, (vs q.1 c).g, (vs q.1 c).seen, stL q.2.1 q.2.2 ((vs q.1 c).fa c) ((vs q.1 c).ga c) (vs q.1 c).large⟩, stP q.2.1 q.2.2 ((vs q.1 c).fa c) ((vs q.1 c).ga c), stR q.2.1 q.2.2 ((vs q.1 c).fa c) ((vs q.1 c).ga c)) := by
 unfold visT stP stR stL
 rw [if_neg (by rw [h]; decide)]
 split <;> rfl
theorem foldl_take {α : Type} {f : α → Int → α} {l : List Int} {j : Nat} (h : j < l.length) (a : α) : (l.take (j + 1)).foldl f a = f ((l.take j).foldl f a) (l.getD j 0) := by
 rw [List.take_add_one, List.getElem?_eq_getElem h, List.foldl_append]
 simp [List.getD, h]
theorem own_wk {id : Nat} {w w' : List Int} {N N' : List (List Int)} {s s' : VS} (h1 : w = w') (h2 : N = N') (h3 : s.f = s'.f) (h4 : s.g = s'.g) (h5 : s.seen = s'.seen) (h6 : s.large = s'.large) : AV.own id (dWk w N s) = AV.own id (dWk w' N' s') := by
 cases s; cases s'; simp only at h3 h4 h5 h6; subst h1 h2 h3 h4 h5 h6; rfl
theorem visit_c {w : List Int} {E : List (List Int)} (hg : IsGr w E) : ∀ (k : Nat) (s : VS) (v : Int), VSn w.length s → VSb s → (0 ≤ v ∧ v < w.length) → cntU s.seen ≤ k → s.sn v = false →
  CallNS Tryz.prog 171 (dWk w (nbL E w.length) s) [aI v] [] (dWk w (nbL E w.length) (vis w E k s v))
 | 0, s, v, hn, hb, hv, hk, hsn => by
  have := cntU_set s.seen v.toNat (by rw [hn.2.2]; omega) hsn
  omega
 | k + 1, s, v, hn, hb, hv, hk, hsn => by
  have IH := visit_c hg k
  have hcnt := cntU_set s.seen v.toNat (by rw [hn.2.2]; omega) hsn
  have hw := hg.2.1
  have hwv := hw v.toNat (by omega)
  have hlen : w.length ≤ 40 := hg.1.2
  have hwall : ∀ i, -1000 ≤ w.getD i 0 ∧ w.getD i 0 ≤ 1000 := fun i => by
   by_cases hi : i < w.length
   ·exact hw i hi
   ·rw [List.getD_eq_getElem?_getD, List.getElem?_eq_none (by omega)]; decide
  have hNl := nbL_len E w.length
  have hNv : (nbL E w.length).getD (v.toNat * 1) [] = near E v := by
   rw [Nat.mul_one, nbL_at E (by omega)]; congr 1; omega
  have hrl := near_le hg.2.2.1 v
  have hrin : ∀ j, j < (near E v).length → 0 ≤ (near E v).getD j 0 ∧ (near E v).getD j 0 < w.length := fun j hj => near_in hg.2.2.1 (getD_mem hj)
  -- the state behind j neighbours
  let st0 : VS × Int × Int := ({ s with seen := s.seen.set v.toNat true }, 1, -(w.getD v.toNat 0))
  have hst : ∀ j, Inv w.length st0.1 (((near E v).take j).foldl (visT (vis w E k)) st0).1 ∧ PrB (((near E v).take j).foldl (visT (vis w E k)) st0).2 := fun j =>
   visL_inv (n := w.length) (fun s v a b => vis_inv (E := E) hwall k s v a b) ((near E v).take j) st0 ⟨hn.1, hn.2.1, by simp [st0, hn.2.2]⟩ hb ⟨prB1, by have := hwall v.toNat; show -1000000000000 ≤ -(w.getD v.toNat 0) ∧ -(w.getD v.toNat 0) ≤ 1000000000000; omega⟩
  have hfin : vis w E (k + 1) s v = { (((near E v).take (near E v).length).foldl (visT (vis w E k)) st0).1 with
    f := (((near E v).take (near E v).length).foldl (visT (vis w E k)) st0).1.f.set v.toNat (((near E v).take (near E v).length).foldl (visT (vis w E k)) st0).2.2
    g := (((near E v).take (near E v).length).foldl (visT (vis w E k)) st0).1.g.set v.toNat (((near E v).take (near E v).length).foldl (visT (vis w E k)) st0).2.1 } := by
   rw [List.take_length]; rfl
  rw [hfin]
  obtain ⟨n1, n2, n3⟩ := hn
  have q0 : ((near E v).take 0).foldl (visT (vis w E k)) st0 = st0 := by simp
  have hwv2 : -1000 ≤ w.getD (v.toNat * 1) 0 ∧ w.getD (v.toNat * 1) 0 ≤ 1000 := hwall _
  have hNr : ((nbL E w.length).getD (v.toNat * 1) []).length = (near E v).length := by rw [hNv]
  refine cN_ _ Tryz.func171 rfl Tryz.ntmps171 ?_
  clear hfin
  repeat' (first | (guard_target =~ WpA _ _ _ _ _ _; first | refine WpA.seq ?_ | refine WpA.drawU ?_ | refine WpA.regionU ?_ | refine WpA.block ?_ | refine WpA.ret ?_ | refine WpA.skip ?_ | refine WpA.exit ?_ | refine WpA.cond_true rfl ?_ | refine WpA.cond_false rfl ?_ | refine WpA.cond_ntrue rfl ?_ | refine WpA.cond_dec rfl (fun _ => ?_) (fun _ => ?_) | refine WpA.cond_not rfl (fun _ => ?_) (fun _ => ?_) | refine WpA.cond rfl (fun _ => ?_) (fun _ => ?_)) | (guard_target =~ RunU _ _ _ _ [] _ _ _ _; first | refine RunU.nilL ?_ | refine RunU.nilD (by kernel_rfl) ?_) | (guard_target =~ RunU _ _ _ _ (Oper.mk _ _ _ _ _ none :: _) _ _ _ _; refine RunU.cons step_any ?_) | refine Then.next ?_ | refine InBlock.next ?_ | ((first | refine DoneN.ret .nil rfl ?_ ?_ | refine DoneN.normal .nil rfl ?_ ?_) <;> try exact rfl))
  refine WpA.loop_slots (ι := Nat) (fun j => [(0, .own 0 (dWk w (nbL E w.length) (((near E v).take j).foldl (visT (vis w E k)) st0).1)), (1, vGI v), (4, vGI (((near E v).take j).foldl (visT (vis w E k)) st0).2.1), (5, vGI (((near E v).take j).foldl (visT (vis w E k)) st0).2.2), (28, .als 0 0 (([] ++ [0 + 1]) ++ [v.toNat * 1])), (29, vGI (near E v).length), (30, vGI j)]) (fun j => j ≤ (near E v).length) (fun j => (near E v).length - j) 0 (by omega) ⟨?_, rfl, ?_, ?_, rfl, ?_, rfl, trivial⟩ ?_
  ·rw [q0]; exact own_wk (s := ⟨s.f, s.g, s.seen.set (v.toNat * 1) true, s.large⟩) rfl rfl rfl rfl (by rw [Nat.mul_one]) rfl
  ·rw [q0]; rfl
  ·rw [q0]; exact int_eq (by rw [Nat.mul_one])
  ·exact int_eq (by rw [hNr])
  intro j s2 nx hj
  obtain ⟨⟨ln, hb2, hmono⟩, hp⟩ := hst j
  by_cases hlt : j < (near E v).length
  ·have hnext := foldl_take (f := visT (vis w E k)) hlt st0
   generalize hq : List.foldl (visT (vis w E k)) st0 (List.take j (near E v)) = q at *
   obtain ⟨⟨f, g, sn, lg⟩, p, r⟩ := q
   have hcn : cntU sn ≤ k := by
    have := cntU_mono st0.1.seen sn (by rw [ln.2.2]; simp [st0, n3]) hmono
    have e : cntU st0.1.seen + 1 = cntU s.seen := hcnt
    omega
   have hcr := hrin j hlt
   have hce : ((nbL E w.length).getD (v.toNat * 1) []).getD (j * 1) 0 = (near E v).getD j 0 := by rw [hNv, Nat.mul_one]
   rw [← hce] at hcr hnext
   obtain ⟨l1, l2, l3⟩ := ln
   simp only at l1 l2 l3
   obtain ⟨hp1, hp2⟩ := hp
   simp only at hp1 hp2
   generalize hc : ((nbL E w.length).getD (v.toNat * 1) []).getD (j * 1) 0 = c at hcr hnext
   cases hsc : sn.getD (c.toNat * 1) false with
   | true =>
    have hne : visT (vis w E k) (⟨f, g, sn, lg⟩, p, r) c = (⟨f, g, sn, lg⟩, p, r) := by
     unfold visT
     rw [if_pos (show VS.sn ⟨f, g, sn, lg⟩ c = true by unfold VS.sn; rw [← Nat.mul_one c.toNat]; exact hsc)]
    rw [hne] at hnext
    subst hc
    clear hst hmono hb2
    repeat' (first | (guard_target =~ WpA _ _ _ _ _ _; first | refine WpA.seq ?_ | refine WpA.drawU ?_ | refine WpA.regionU ?_ | refine WpA.block ?_ | refine WpA.ret ?_ | refine WpA.skip ?_ | refine WpA.exit ?_ | refine WpA.cond_true rfl ?_ | refine WpA.cond_false rfl ?_ | refine WpA.cond_ntrue rfl ?_ | refine WpA.cond_dec rfl (fun _ => ?_) (fun _ => ?_) | refine WpA.cond_not rfl (fun _ => ?_) (fun _ => ?_) | refine WpA.cond rfl (fun _ => ?_) (fun _ => ?_)) | (guard_target =~ RunU _ _ _ _ [] _ _ _ _; first | refine RunU.nilL ?_ | refine RunU.nilD (by kernel_rfl) ?_) | (guard_target =~ RunU _ _ _ _ (Oper.mk _ _ _ _ _ none :: _) _ _ _ _; refine RunU.cons step_any ?_) | refine Then.next ?_ | refine InBlock.next ?_ | ((first | refine DoneN.ret .nil rfl ?_ ?_ | refine DoneN.normal .nil rfl ?_ ?_) <;> try exact rfl))
    all_goals try (exfalso; simp_all; done)
    all_goals try (exfalso; omega)
    refine ⟨j + 1, by omega, ?_, by omega⟩
    rw [hnext]
    exact ⟨rfl, rfl, rfl, rfl, rfl, rfl, int_eq (by omega), trivial⟩
   | false =>
    have hsn2 : VS.sn ⟨f, g, sn, lg⟩ c = false := by unfold VS.sn; rw [← Nat.mul_one c.toNat]; exact hsc
    have hinv := vis_inv (E := E) hwall k ⟨f, g, sn, lg⟩ c ⟨l1, l2, l3⟩ hb2
    have hV := IH ⟨f, g, sn, lg⟩ c ⟨l1, l2, l3⟩ hb2 hcr hcn hsn2
    rw [visT_eq _ _ _ hsn2] at hnext
    simp only [VS.fa, VS.ga] at hnext
    rw [← Nat.mul_one c.toNat] at hnext
    generalize hs1 : vis w E k ⟨f, g, sn, lg⟩ c = s1 at *
    obtain ⟨f1, g1, sn1, lg1⟩ := s1
    obtain ⟨⟨m1, m2, m3⟩, ⟨b1, b2⟩, _⟩ := hinv
    simp only at m1 m2 m3 b1 b2 hnext
    have b3 := b1 (c.toNat * 1)
    have b4 := b2 (c.toNat * 1)
    have hS := step_c w (nbL E w.length) f1 g1 sn1 lg1 p r (f1.getD (c.toNat * 1) 0) (g1.getD (c.toNat * 1) 0) hp1 hp2 b3 b4
    subst hc
    clear hst hmono hb2 b1 b2 IH hs1
    repeat' (first | (guard_target =~ WpA _ _ _ _ _ _; first | refine WpA.seq ?_ | refine WpA.drawU ?_ | refine WpA.regionU ?_ | refine WpA.block ?_ | refine WpA.ret ?_ | refine WpA.skip ?_ | refine WpA.exit ?_ | refine WpA.cond_true rfl ?_ | refine WpA.cond_false rfl ?_ | refine WpA.cond_ntrue rfl ?_ | refine WpA.cond_dec rfl (fun _ => ?_) (fun _ => ?_) | refine WpA.cond_not rfl (fun _ => ?_) (fun _ => ?_) | refine WpA.cond rfl (fun _ => ?_) (fun _ => ?_)) | (guard_target =~ RunU _ _ _ _ [] _ _ _ _; first | refine RunU.nilL ?_ | refine RunU.nilD (by kernel_rfl) ?_) | (guard_target =~ RunU _ _ _ _ (Oper.mk _ (Op.call ⟨Callee.value _, _, _⟩) _ _ _ none :: _) _ _ _ _; first | refine RunU.cons (step_call_ioS0 (hV) iA (.sh .nil) (.sh lcA .nil) xR_ xR_ rfl) ?_ | refine RunU.cons (step_call_ioS2 (hS) iA (.sh (.sh (.sh (.sh .nil)))) (.sh lcA (.sh lcA (.sh lcA (.sh lcA .nil)))) xR_ xR_ rfl) ?_) | (guard_target =~ RunU _ _ _ _ (Oper.mk _ _ _ _ _ none :: _) _ _ _ _; refine RunU.cons step_any ?_) | refine Then.next ?_ | refine InBlock.next ?_ | ((first | refine DoneN.ret .nil rfl ?_ ?_ | refine DoneN.normal .nil rfl ?_ ?_) <;> try exact rfl))
    all_goals try (exfalso; simp_all; done)
    all_goals try (exfalso; omega)
    refine ⟨j + 1, by omega, ?_, by omega⟩
    rw [hnext]
    exact ⟨rfl, rfl, rfl, rfl, rfl, rfl, int_eq (by omega), trivial⟩
  ·have ej : j = (near E v).length := by omega
   subst ej
   generalize hq : List.foldl (visT (vis w E k)) st0 (List.take (near E v).length (near E v)) = q at *
   obtain ⟨⟨f, g, sn, lg⟩, p, r⟩ := q
   obtain ⟨l1, l2, l3⟩ := ln
   simp only at l1 l2 l3
   obtain ⟨hp1, hp2⟩ := hp
   simp only at hp1 hp2
   clear hst hmono hb2 IH
   repeat' (first | (guard_target =~ WpA _ _ _ _ _ _; first | refine WpA.seq ?_ | refine WpA.drawU ?_ | refine WpA.regionU ?_ | refine WpA.block ?_ | refine WpA.ret ?_ | refine WpA.skip ?_ | refine WpA.exit ?_ | refine WpA.cond_true rfl ?_ | refine WpA.cond_false rfl ?_ | refine WpA.cond_ntrue rfl ?_ | refine WpA.cond_dec rfl (fun _ => ?_) (fun _ => ?_) | refine WpA.cond_not rfl (fun _ => ?_) (fun _ => ?_) | refine WpA.cond rfl (fun _ => ?_) (fun _ => ?_)) | (guard_target =~ RunU _ _ _ _ [] _ _ _ _; first | refine RunU.nilL ?_ | refine RunU.nilD (by kernel_rfl) ?_) | (guard_target =~ RunU _ _ _ _ (Oper.mk _ _ _ _ _ none :: _) _ _ _ _; refine RunU.cons step_any ?_) | refine Then.next ?_ | refine InBlock.next ?_ | ((first | refine DoneN.ret .nil rfl ?_ ?_ | refine DoneN.normal .nil rfl ?_ ?_) <;> try exact rfl))
   all_goals try (exfalso; omega)
   all_goals (rw [Nat.mul_one]; rfl)
end Go.Proofs.YtmgmpnhlehonmaaGreat
