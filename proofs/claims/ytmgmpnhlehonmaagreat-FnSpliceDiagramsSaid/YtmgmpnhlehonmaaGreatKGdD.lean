/- Contracting vertices, minimal graphs: the reference. No condition. -/
import Derived.Test.YtmgmpnhlehonmaaGreatKPwR
import Derived.Test.YtmgmpnhlehonmaaGreatKFxA
import Derived.Test.YtmgmpnhlehonmaaGreatKHaB
import Derived.Test.YtmgmpnhlehonmaaGreatKGrG
import Derived.Test.YtmgmpnhlehonmaaGreatKPvX
import Derived.Test.YtmgmpnhlehonmaaGreatKGdA
import Derived.Test.YtmgmpnhlehonmaaGreatKPwI
set_option linter.unusedVariables false
set_option linter.unusedSimpArgs false
namespace Go.Proofs.YtmgmpnhlehonmaaGreat
set_option maxRecDepth 100000
set_option maxHeartbeats 20000000
open Go.Pv
open Go.ChangeShapes Go.WideShapes Go.ChangeAt Go.RowKit
attribute [local irreducible] RunU WpA Step CallG CallNG Done DoneN
instance fnOk119 : FnOk Tryz.prog 119 := ⟨_, Tryz.func119, rfl, by decide⟩
theorem fromG_ex {l : List Int} (hb : By l) : ∃ s : St, OkS l s ∧ CallS Tryz.prog 60 [aBy l] [.one (dSs l s)] [] := by
 obtain ⟨h, _, hF⟩ := from_c' l hb.len
 exact ⟨(0, h), ⟨by simp, by simp⟩, hF⟩
structure Gs (w : List Int) (E : List (List Int)) : Prop where
 lw : w.length ≤ 41
 b : ∀ i, -2000 ≤ w.getD i 0 ∧ w.getD i 0 ≤ 2000
 le : E.length ≤ 600
 l2 : ∀ r ∈ E, r.length = 2
theorem drawAny_ex {l : List Int} (hb : By l) {s : St} (hs : OkS l s) (most : Int) (hm : 1 ≤ most ∧ most ≤ 40) : ∃ (w : List Int) (E : List (List Int)) (s' : St), Gs w E ∧ OkS l s' ∧
  CallNS Tryz.prog 119 (dSs l s) [aI most] [rGr w E] (dSs l s') := by
 obtain ⟨w, E, s1, hw, hbd, hE, h22, hs1, hN1⟩ := draw_ex hb hs most hm
 obtain ⟨k, s2, d2⟩ := dr1_ex hb hs1 24
 have hN2 := d2.2.2
 by_cases h0 : k = 0
 ·obtain ⟨p, s3, d3⟩ := dr1_ex hb d2.2.1 w.length
  obtain ⟨q, s4, d4⟩ := drP_ex hb d3.2.1 [1001, -1001] (by simp)
  have hN3 := d3.2.2
  have hN4 := d4.2.2
  have hp : 0 ≤ p ∧ p < w.length := ⟨d3.1.1, d3.1.2.2 (by omega)⟩
  have hq : -2000 ≤ q ∧ q ≤ 2000 := by
   obtain ⟨i, hi, e⟩ := d4.1
   match i, hi with
   | 0, _ => rw [e]; decide
   | 1, _ => rw [e]; decide
  refine ⟨w.set (p.toNat * 1) q, E, s4, ⟨by rw [List.length_set]; omega, fun i => ?_, by omega, h22⟩, d4.2.1, ?_⟩
  ·have := hbd i
   rw [getD_setW]
   split <;> omega
  ·subst h0
   clear d2 d3 d4 hbd hb h22
   refine cN_ _ Tryz.func119 rfl Tryz.ntmps119 ?_
   repeat' (first | (refine Two.mk ?_ ?_ <;> intro _) | (guard_target =~ IsW; first | refine WpA.rerootC 17 0 13 rfl rfl rfl rfl ?_ | refine WpA.rerootC 47 13 0 rfl rfl rfl rfl ?_) | (guard_target =~ AtN 14; refine RunU.cons (sI_ (hN2) iA (.sh .nil) (.sh lcA .nil) xR_ xR_ rfl) ?_) | (guard_target =~ AtN 21; refine RunU.cons (sI_ (hN3) iA (.sh .nil) (.sh lcA .nil) xR_ xR_ rfl) ?_) | (guard_target =~ AtN 24; refine RunU.cons (sI_ (hN4) iA (.mv vA_ .nil) (.mv .nil) xR_ xR_ rfl) ?_) | (guard_target =~ CallN_; first | refine RunU.cons (sV_ (hN1) iA (.sh .nil) (.sh lcA .nil) xR_ xR_ rfl) ?_) | refine goA ?_ | (refine neA ?_; first | refine nxA ?_ | ((first | refine DoneN.ret (.cell inferInstance rfl rfl .nil) rfl ?_ ?_ | refine DoneN.normal (.cell inferInstance rfl rfl .nil) rfl ?_ ?_) <;> try exact rfl)) | fail)
   all_goals first | rfl | (exfalso; omega)
 ·by_cases h1 : k = 1
  ·obtain ⟨p, s3, d3⟩ := dr1_ex hb d2.2.1 w.length
   obtain ⟨q, s4, d4⟩ := dr1_ex hb d3.2.1 2
   have hN3 := d3.2.2
   have hN4 := d4.2.2
   have hp := d3.1.1
   have hq : 0 ≤ q ∧ q < 2 := ⟨d4.1.1, d4.1.2.2 (by omega)⟩
   refine ⟨w, E ++ [[p, (w.length : Int) - q]], s4, ⟨by omega, hbd, by simp; omega, fun r hr => (List.mem_append.1 hr).elim (h22 r) fun h => by rw [List.mem_singleton] at h; rw [h]; rfl⟩, d4.2.1, ?_⟩
   subst h1
   clear d2 d3 d4 hbd hb h22
   refine cN_ _ Tryz.func119 rfl Tryz.ntmps119 ?_
   repeat' (first | (refine Two.mk ?_ ?_ <;> intro _) | (guard_target =~ IsW; first | refine WpA.rerootC 28 0 13 rfl rfl rfl rfl ?_ | refine WpA.rerootC 47 13 0 rfl rfl rfl rfl ?_) | (guard_target =~ AtN 14; refine RunU.cons (sI_ (hN2) iA (.sh .nil) (.sh lcA .nil) xR_ xR_ rfl) ?_) | (guard_target =~ AtN 32; refine RunU.cons (sI_ (hN3) iA (.sh .nil) (.sh lcA .nil) xR_ xR_ rfl) ?_) | (guard_target =~ AtN 35; refine RunU.cons (sI_ (hN4) iA (.sh .nil) (.sh lcA .nil) xR_ xR_ rfl) ?_) | (guard_target =~ CallN_; first | refine RunU.cons (sV_ (hN1) iA (.sh .nil) (.sh lcA .nil) xR_ xR_ rfl) ?_) | refine goA ?_ | (refine neA ?_; first | refine nxA ?_ | ((first | refine DoneN.ret (.cell inferInstance rfl rfl .nil) rfl ?_ ?_ | refine DoneN.normal (.cell inferInstance rfl rfl .nil) rfl ?_ ?_) <;> try exact rfl)) | fail)
   all_goals first | rfl | (exfalso; omega)
  ·by_cases h2 : k = 2
   ·refine ⟨w.drop 1, E, s2, ⟨by rw [List.length_drop]; omega, fun i => ?_, by omega, h22⟩, d2.2.1, ?_⟩
    ·have := hbd (1 + i)
     rw [List.getD_eq_getElem?_getD, List.getElem?_drop, ← List.getD_eq_getElem?_getD]
     exact this
    ·subst h2
     clear d2 hbd hb h22
     refine cN_ _ Tryz.func119 rfl Tryz.ntmps119 ?_
     repeat' (first | (refine Two.mk ?_ ?_ <;> intro _) | (guard_target =~ AtN 14; refine RunU.cons (sI_ (hN2) iA (.sh .nil) (.sh lcA .nil) xR_ xR_ rfl) ?_) | (guard_target =~ CallN_; first | refine RunU.cons (sV_ (hN1) iA (.sh .nil) (.sh lcA .nil) xR_ xR_ rfl) ?_) | (guard_target =~ IsN; first | refine RunU.cons (step_tail (l := 1) (by exact .part rfl rfl rfl) rfl rfl (by omega) rfl) ?_) | refine goA ?_ | (refine neA ?_; first | refine nxA ?_ | ((first | refine DoneN.ret (.cell inferInstance rfl rfl .nil) rfl ?_ ?_ | refine DoneN.normal (.cell inferInstance rfl rfl .nil) rfl ?_ ?_) <;> try exact rfl)) | fail)
     all_goals first | rfl | (exfalso; omega)
   ·refine ⟨w, E, s2, ⟨by omega, hbd, by omega, h22⟩, d2.2.1, ?_⟩
    clear d2 hbd hb h22
    refine cN_ _ Tryz.func119 rfl Tryz.ntmps119 ?_
    repeat' (first | (refine Two.mk ?_ ?_ <;> intro _) | (guard_target =~ AtN 14; refine RunU.cons (sI_ (hN2) iA (.sh .nil) (.sh lcA .nil) xR_ xR_ rfl) ?_) | (guard_target =~ CallN_; first | refine RunU.cons (sV_ (hN1) iA (.sh .nil) (.sh lcA .nil) xR_ xR_ rfl) ?_) | refine goA ?_ | (refine neA ?_; first | refine nxA ?_ | ((first | refine DoneN.ret (.cell inferInstance rfl rfl .nil) rfl ?_ ?_ | refine DoneN.normal (.cell inferInstance rfl rfl .nil) rfl ?_ ?_) <;> try exact rfl)) | fail)
    all_goals first | rfl | (exfalso; omega)
instance fnOk108 : FnOk Tryz.prog 108 := ⟨_, Tryz.func108, rfl, by decide⟩
instance fnOk107 : FnOk Tryz.prog 107 := ⟨_, Tryz.func107, rfl, by decide⟩
instance fnOk48 : FnOk Tryz.prog 48 := ⟨_, Tryz.func48, rfl, by decide⟩
theorem step_min {P : Program} {n : NN} {nid : Nat} {st : Nat → AV} {d : Nat} {x y : Operand} {a b : Int} {ts : Array TypeId} {ty pos aft g} (hx : Go.Pv.Lit st x (.int .i64 a)) (hy : Go.Pv.Lit st y (.int .i64 b)) (hd : n d = true) :
  Step P n ⟨some d, .call ⟨.builtin .min, #[x, y], ts⟩, ty, pos, aft, g⟩ nid st (rdOf x ++ rdOf y) [(d, .c (.lit (.int .i64 (if b < a then b else a))))] := by
 have := step_pure (P := P) (n := n) (nid := nid) (st := st) (o := ⟨some d, .call ⟨.builtin .min, #[x, y], ts⟩, ty, pos, aft, g⟩) (d := d) (u := .int .i64 (if b < a then b else a)) [(x, .int .i64 a), (y, .int .i64 b)] rfl hd rfl (by simpa using ⟨hx, hy⟩) (fun ev w hev => by
  have e1 := hev (x, .int .i64 a) (by simp)
  have e2 := hev (y, .int .i64 b) (by simp)
  simp only at e1 e2
  simp [execOp, resolve, invoke, builtin, e1, e2, Builtin.min_, Builtin.min2])
 simpa using this
end Go.Proofs.YtmgmpnhlehonmaaGreat
namespace Go.Proofs.YtmgmpnhlehonmaaGreat
abbrev e0 (e : List Int) : Int := e.getD 0 0
abbrev e1 (e : List Int) : Int := e.getD 1 0
def parts (B : Int → List Int) : List Int → List Int
 | [] => []
 | c :: l => B c ++ parts B l
structure Apart (E : List (List Int)) (B : Int → List Int) (l : List Int) : Prop where
 dis : ∀ c ∈ l, ∀ d ∈ l, ∀ x ∈ B c, x ∈ B d → c = d
 far : ∀ c ∈ l, ∀ d ∈ l, ∀ x ∈ B c, ∀ y ∈ B d, Adj E x y → c = d
theorem Apart.mono {E : List (List Int)} {B B' : Int → List Int} {l : List Int} (h : Apart E B l) (hB : ∀ c, ∀ x ∈ B' c, x ∈ B c) : Apart E B' l :=
 ⟨fun c hc d hd x h1 h2 => h.dis c hc d hd x (hB _ _ h1) (hB _ _ h2), fun c hc d hd x h1 y h2 => h.far c hc d hd x (hB _ _ h1) y (hB _ _ h2)⟩
theorem Apart.tail {E : List (List Int)} {B : Int → List Int} {c : Int} {l : List Int} (h : Apart E B (c :: l)) : Apart E B l :=
 ⟨fun c hc d hd => h.dis c (by simp [hc]) d (by simp [hd]), fun c hc d hd => h.far c (by simp [hc]) d (by simp [hd])⟩
theorem Bw.adj {n : Nat} {E : List (List Int)} (hg : GoodE n E) {v : Int} {t : List Int} {x u y : Int} (h : Bw E v t x u) (ha : Adj E x y) : (∃ u', Bw E v t y u') ∨ (x = v ∧ y = t.headD (-1)) := by
 by_cases hy : y = u
 ·subst hy
  rcases h.cases hg with ⟨rfl, e⟩ | ⟨c, hc, l, p, h1, h2, h3⟩
  ·exact .inr ⟨rfl, e⟩
  ·left
   cases p with
   | nil =>
    obtain ⟨rfl, e⟩ := List.cons.inj h2
    rw [e] at h1 h3
    rw [h3]
    exact ⟨_, v :: t |>.tail, [], h1.tail, rfl, rfl⟩
   | cons z p =>
    obtain ⟨_, h4⟩ := List.cons.inj h2
    cases l with
    | nil => have := congrArg List.length h4; simp at this
    | cons w l =>
     rw [h3]
     refine ⟨_, l, p ++ [c], h1.tail, ?_, rfl⟩
     show w :: l = _
     rw [h4]
     simp
 ·obtain ⟨l, p, h1, h2, h3⟩ := h
  left
  refine ⟨x, x :: l, y :: p, h1.cons ha.symm fun z l' e => ?_, by rw [h2]; rfl, rfl⟩
  subst e
  rw [h3] at hy
  exact hy
def CanC (w : List Int) (E : List (List Int)) (v : Int) : Prop := 1 < w.length ∧ w.getD v.toNat 0 = -1 ∧ (near E v).length ≤ 2
instance (w : List Int) (E : List (List Int)) (v : Int) : Decidable (CanC w E v) := by unfold CanC; infer_instance
def upI (v y : Int) : Int := if y ≥ v then y + 1 else y
def spc (E : List (List Int)) (v x y : Int) : Prop := near E v = [upI v x, upI v y] ∨ near E v = [upI v y, upI v x]
instance (E : List (List Int)) (v x y : Int) : Decidable (spc E v x y) := by unfold spc; infer_instance
def FitC (w : List Int) (E : List (List Int)) (v : Int) : Prop := ∀ x ∈ near E v, w.getD x.toNat 0 + 1 ≤ 1000
instance (w : List Int) (E : List (List Int)) (v : Int) : Decidable (FitC w E v) := by unfold FitC; infer_instance
end Go.Proofs.YtmgmpnhlehonmaaGreat
namespace Go.Pv
open Go.RowKit
section
variable {P : Program} {n : NN} {nid : Nat} {st : Nat → AV}
end
end Go.Pv
namespace Go.Proofs.YtmgmpnhlehonmaaGreat
set_option maxHeartbeats 20000000
open Go.Pv
open Go.ChangeShapes Go.WideShapes Go.ChangeAt Go.RowKit
attribute [local irreducible] RunU WpA Step CallG CallNG Done DoneN
structure HidG (K : Prop) : Prop where
 out : K
theorem cutG {K G : Prop} (f : HidG K → G) (k : K) : G := f ⟨k⟩
theorem WpA.forgetG {P : Program} {n : NN} {st : Nat → AV} {nx : Nat} {c : Code} {Q : Exit → (Nat → AV) → Nat → Prop} (slots : Nat → Nat → Nat → List (Nat × AV)) (a b d : Nat) (h0 : Has st (slots a b d)) (h : ∀ a b d s k, WpA P n c (puts s (slots a b d)) k Q) : WpA P n c st nx Q := by
 have := h a b d st nx
 rwa [puts_has _ _ h0] at this
end Go.Proofs.YtmgmpnhlehonmaaGreat
