/- The values of a simple curvette at the points of a cluster, by the reference. No condition. -/
import Derived.Test.YtmgmpnhlehonmaaGreatWFxA
import Derived.Test.YtmgmpnhlehonmaaGreatWPvR
import Derived.Test.YtmgmpnhlehonmaaGreatWPvZ
import Derived.Test.YtmgmpnhlehonmaaGreatWGqB
import Derived.Test.YtmgmpnhlehonmaaGreatWTy
import Derived.Test.YtmgmpnhlehonmaaGreatWGrP
import Derived.Test.YtmgmpnhlehonmaaGreatWHeA
set_option linter.unusedVariables false
set_option linter.unusedSimpArgs false
namespace Go.Proofs.YtmgmpnhlehonmaaGreat
set_option maxRecDepth 100000
set_option maxHeartbeats 20000000
open Go.Pv
open Go.ChangeShapes Go.WideShapes Go.ChangeAt Go.RowKit
attribute [local irreducible] Za WpA Zg Xf Zz Z6 Zd
instance fnOk204 : Zs Tryz.prog 204 := ⟨_, Tryz.func204, rfl, by decide⟩
instance fnOk176 : Zs Tryz.prog 176 := ⟨_, Tryz.func176, rfl, by decide⟩
attribute [local irreducible] decStrict decFalls decIsBr decWithin Qm Hs Vq Yz
abbrev St := Int × Int
def OkS (l : List Int) (s : St) : Prop := 0 <= s.1 /\ s.1 <= l.length
abbrev dSs (l : List Int) (s : St) : D := dSr l s.1 s.2
structure By (l : List Int) : Prop where
 len : l.length <= 9223372036854775807
 b : ∀ i, 0 <= l.getD i 0 /\ l.getD i 0 <= 255
def Dr1 (l : List Int) (s : St) (n x : Int) (s' : St) : Prop := (0 <= x /\ (n < 1 -> x = 0) /\ (1 <= n -> x < n)) /\ OkS l s' /\ Xn Tryz.prog 65 (dSs l s) [aI n] [rI x] (dSs l s')
theorem Xc {l : List Int} (hb : By l) {s : St} (hs : OkS l s) (n : Int) : ∃ x s', Dr1 l s n x s' := by
 obtain ⟨x, a, h, h1, h2, h3⟩ := Zrq l hb.len hb.b s.1 s.2 n hs
 exact ⟨x, (a, h), h1, h2, h3⟩
def DrP (l : List Int) (s : St) (L : List Int) (x : Int) (s' : St) : Prop := (∃ i, i < L.length /\ x = L.getD i 0) /\ OkS l s' /\ Xn Tryz.prog 93 (dSs l s) [.mv (.one (.sl true 1 (Ze L)))] [rI x] (dSs l s')
theorem Hu {l : List Int} (hb : By l) {s : St} (hs : OkS l s) (L : List Int) (h1 : 1 <= L.length /\ L.length <= 1000) : ∃ x s', DrP l s L x s' := by
 obtain ⟨i, a, h, h1, h2, h3⟩ := Xaz l hb.len hb.b s.1 s.2 L h1 hs
 exact ⟨L.getD i 0, (a, h), ⟨i, h1, rfl⟩, h2, h3⟩
def cop (own : Int) : Int -> Nat -> Int
 | c, 0 => c
 | c, f + 1 => if 1 < (Int.gcd c own : Int) then cop own (c + 1) f else c
theorem Zy0 : ∀ o : Fin 4, ∀ c : Fin 41, (Int.gcd (cop ((o.val : Int) + 2) (c.val : Int) 5) ((o.val : Int) + 2) : Int) <= 1 /\ (c.val : Int) <= cop ((o.val : Int) + 2) (c.val : Int) 5 /\ cop ((o.val : Int) + 2) (c.val : Int) 5 <= (c.val : Int) + 5 := by decide +kernel
theorem Zl4 {own c : Int} (ho : 2 <= own /\ own <= 5) (hc : 0 <= c /\ c <= 40) : (Int.gcd (cop own c 5) own : Int) <= 1 /\ c <= cop own c 5 /\ cop own c 5 <= c + 5 := by
 have := Zy0 ⟨(own - 2).toNat, by omega⟩ ⟨c.toNat, by omega⟩
 simp only at this
 rwa [show (((own - 2).toNat : Nat) : Int) + 2 = own by omega, show ((c.toNat : Nat) : Int) = c by omega] at this
def c3 (ps : List (List Int)) (own y : Int) : Int := if ps.length = 0 then cop own (cop own (1 + y) 5 + own) 5 else cop own (1 + y) 5
inductive Zp9 (l : List Int) (most : Int) : Nat -> List (List Int) -> Int -> St -> List (List Int) -> St -> Prop
 | done {ps n s} : Zp9 l most 0 ps n s ps s
 | skip {k ps n s x s1 P S} (h1 : Dr1 l s 4 x s1) (hm : most < n * (2 + x)) (r : Zp9 l most k ps n s1 P S) : Zp9 l most (k + 1) ps n s P S
 | more {k ps n s x s1 v s2 y s3 P S} (h1 : Dr1 l s 4 x s1) (hm : n * (2 + x) <= most) (h2 : DrP l s1 [4, 8, 12] v s2) (h3 : Dr1 l s2 v y s3) (hy : 0 <= y /\ y <= 11)
   (r : Zp9 l most k (ps ++ [[c3 ps (2 + x) y, 2 + x]]) (n * (2 + x)) s3 P S) : Zp9 l most (k + 1) ps n s P S
theorem Zgb (ps qs : List (List Int)) : ∀ j, j <= ps.length -> pr2 (ps ++ qs) j = pr2 ps j
 | 0, _ => rfl
 | j + 1, hj => by
  have e : (ps ++ qs).getD j [] = ps.getD j [] := by rw [List.getD_eq_getElem?_getD, List.getElem?_append_left j2, <- List.getD_eq_getElem?_getD]
  simp only [pr2]
  rw [Zgb ps qs j j2, e]
theorem Hv {ps : List (List Int)} {r : List Int} {i : Nat} (hi : i < (ps ++ [r]).length) : (ps ++ [r]).getD i [] = if i < ps.length then ps.getD i [] else r := by
 by_cases h : i < ps.length
 ·rw [if_pos h, List.getD_eq_getElem?_getD, List.getElem?_append_left h, <- List.getD_eq_getElem?_getD]
 ·have : i = ps.length := by simp at hi; omega
  subst this
  rw [if_neg h, List.getD_eq_getElem?_getD, List.getElem?_append_right (Nat.le_refl _), Nat.sub_self]
  rfl
theorem Zs2 {ps : List (List Int)} (h : Zes ps) {c own : Int} (hl : ps.length < 3) (hc : 1 <= c /\ c <= 60) (ho : 1 <= own /\ own <= 5) (hm : 1 <= pr2 ps ps.length * own /\ pr2 ps ps.length * own <= 64) : Zes (ps ++ [[c, own]]) where
 len := by simp; omega
 row := fun i hi => by rw [Hv hi]; split; exact h.row i ‹_›; rfl
 v1 := fun i hi => by rw [Hv hi]; split; exact h.v1 i ‹_›; exact hc
 v2 := fun i hi => by rw [Hv hi]; split; exact h.v2 i ‹_›; exact ho
 pr := fun j hj => by
  by_cases e : j <= ps.length
  ·rw [Zgb _ _ _ e]; exact h.pr j e
  ·have : j = ps.length + 1 := by simp at hj; omega
   subst this
   rw [pr2, Zgb _ _ _ (Nat.le_refl _), Hv (by simp), if_neg j2]
   exact hm
theorem Xbq (ps : List (List Int)) {own y : Int} (ho : 2 <= own /\ own <= 5) (hy : 0 <= y /\ y <= 11) : 1 <= c3 ps own y /\ c3 ps own y <= 60 := by
 have h1 := Zl4 (c := 1 + y) ho j2
 unfold c3
 split
 ·have h2 := Zl4 (c := cop own (1 + y) 5 + own) ho j2
  omega
 ·omega
theorem Zl5 {l : List Int} (hb : By l) {most : Int} (hmo : most <= 64) : ∀ (k : Nat) (ps : List (List Int)) (n : Int) (s : St), Zes ps -> pr2 ps ps.length = n -> ps.length + k <= 3 -> OkS l s -> ∃ P S, Zp9 l most k ps n s P S /\ Zes P /\ OkS l S
 | 0, ps, n, s, hg, _, _, hs => ⟨ps, s, .done, hg, hs⟩
 | k + 1, ps, n, s, hg, hn, hk, hs => by
  obtain ⟨x, s1, d1⟩ := Xc hb hs 4
  have hx : 0 <= x /\ x < 4 := ⟨d1.1.1, d1.1.2.2 j2⟩
  have hp := hg.pr ps.length (Nat.le_refl _)
  by_cases hm : n * (2 + x) <= most
  ·obtain ⟨v, s2, d2⟩ := Hu hb d1.2.1 [4, 8, 12] (by simp)
   obtain ⟨y, s3, d3⟩ := Xc hb d2.2.1 v
   have hv : 1 <= v /\ v <= 12 := by
    obtain ⟨i, hi, e⟩ := d2.1
    match i, hi with
    | 0, _ => simp at e; omega
    | 1, _ => simp at e; omega
    | 2, _ => simp at e; omega
   have hy : 0 <= y /\ y <= 11 := ⟨d3.1.1, by have := d3.1.2.2 j2; omega⟩
   have hc := Xbq ps (own := 2 + x) j2 hy
   have h1 : 1 <= n * (2 + x) := by
    have : 1 * 1 <= n * (2 + x) := Int.mul_le_mul j2 j2 j2 j2
    omega
   have hg2 := Zs2 hg (c := c3 ps (2 + x) y) (own := 2 + x) j2 hc j2 (by rw [hn]; omega)
   obtain ⟨P, S, r, g, o⟩ := Zl5 hb hmo k _ (n * (2 + x)) s3 hg2 (by rw [List.length_append, List.length_singleton, pr2, Zgb _ _ _ (Nat.le_refl _), Hv (by simp), if_neg j2, hn]; rfl) u4 d3.2.1
   exact ⟨P, S, .more d1 hm d2 d3 hy r, g, o⟩
  ·obtain ⟨P, S, r, g, o⟩ := Zl5 hb hmo k ps n s1 hg hn j2 d1.2.1
   exact ⟨P, S, .skip d1 j2 r, g, o⟩
abbrev brT (T : List Int) : V := .agg [.sl true 1 (Ze T)]
theorem Zwk {l : List Int} (hb : By l) {s : St} (hs : OkS l s) (most term : Int) (hmo : 1 <= most /\ most <= 64) : ∃ (T : List Int) (s' : St), (Vq T \/ T = [1] \/ T = [2] \/ T = [3]) /\ OkS l s' /\
  Xn Tryz.prog 204 (dSs l s) [aI most, aI term] [brT T] (dSs l s') := by
 obtain ⟨x0, s0, d0⟩ := Xc hb hs 3
 have hx0 : 0 <= x0 /\ x0 < 3 := ⟨d0.1.1, d0.1.2.2 j2⟩
 obtain ⟨P, S, hgo, hP, hS⟩ := Zl5 hb hmo.2 (1 + x0).toNat [] 1 s0 ⟨by simp, fun i hi => by simp at hi, fun i hi => by simp at hi, fun i hi => by simp at hi, fun j hj => by
  have : j = 0 := by simpa using hj
  subst this; simp [pr2]⟩ rfl u4 d0.2.1
 obtain ⟨T, code, hT, hB⟩ := Xa1 P hP
 obtain ⟨x1, s1, d1⟩ := Xc hb hS 12
 obtain ⟨xA, sA, dA⟩ := Hu hb hS [1, 2, 3] (by simp)
 obtain ⟨xC, sC, dC⟩ := Hu hb d1.2.1 [1, 2, 3] (by simp)
 have main : ∀ (R : List Int) (s' : St), ((code ≠ 0 \/ code = 0 /\ 1 <= T.length /\ term < T.getD (((T.length : Int) - 1).toNat * 1) 0) /\ R = [xA] /\ s' = sA \/ (code = 0 /\ 1 <= T.length /\ T.getD (((T.length : Int) - 1).toNat * 1) 0 <= term) /\ (x1 = 0 /\ R = [xC] /\ s' = sC \/ x1 ≠ 0 /\ R = T /\ s' = s1)) ->
  Xn Tryz.prog 204 (dSs l s) [aI most, aI term] [brT R] (dSs l s') := by
  intro R s' hcase
  have hTl : T.length <= 100 := by
   rcases hT with ⟨_, h⟩ | ⟨_, rfl⟩
   ·exact (Zl0 h).len.2
   ·simp
  have hN0 := d0.2.2
  have hN1 := d1.2.2
  have hNA := dA.2.2
  have hNC := dC.2.2
  clear d0 d1 dA dC hs hb hP hS hT
  refine cN_ _ Tryz.func204 rfl Tryz.ntmps204 ?_
  repeat' (first | (refine w2_ ?_ ?_ <;> intro _) | (guard_target =~ Zh; first | refine Za.cons (sI_ (hN0) iA (.sh .nil) (.sh lcA .nil) xR_ xR_ rfl) ?_) | (guard_target =~ IsG; first | refine psA ?_ | (guard_target =~ Z3; first | refine Za.doit rfl rfl (sI_ (hN0) iA (.sh .nil) (.sh lcA .nil) xR_ xR_ rfl) ?_)) | refine ax_ ?_ | ((first | refine Zd.ret (.cell inferInstance rfl rfl .nil) rfl ?_ ?_ | refine Zd.normal (.cell inferInstance rfl rfl .nil) rfl ?_ ?_) <;> try exact rfl)|fail)
  refine WpA.loop_slots (ι := Nat × List (List Int) × Int × St × Nat) (fun q => [(0, .own 0 (dSs l q.2.2.2.1)), (1, vI most), (2, vI term), (6, .own 3 (.pt true [.sl true 1 []])), (7, .own q.2.2.2.2 (.sl true 1 (LL q.2.1))), (8, vI q.2.2.1), (9, vI q.1)]) (fun q => Zp9 l most q.1 q.2.1 q.2.2.1 q.2.2.2.1 P S /\ (1 <= q.2.2.1 /\ q.2.2.1 <= 64) /\ q.2.1.length + q.1 <= 3) (fun q => q.1) ((1 + x0).toNat, [], 1, s0, _) ⟨hgo, by simp, by simp; omega⟩ ⟨rfl, rfl, rfl, rfl, xR_, rfl, Zb u4, trivial⟩ ?_
  clear hgo hx0 hN0
  rintro ⟨k, ps, n, t, id⟩ st nx ⟨hgo, hn, hl⟩
  simp only at hgo hn hl
  dsimp only
  match k, hgo with
  | 0, .done =>
   clear hl
   rcases hcase with ⟨hc, rfl, rfl⟩ | ⟨⟨rfl, hT1, hT2⟩, ⟨rfl, rfl, rfl⟩ | ⟨hx, rfl, rfl⟩⟩
   ·clear hN1 hNC
    rcases hc with hc | ⟨rfl, hT1, hT2⟩
    ·repeat' (first | (refine w2_ ?_ ?_ <;> intro _) | (guard_target =~ Zh; first | refine kM_ hB ?_ | refine Za.cons (sI_ (hNA) iA (.mv vA_ .nil) (.mv .nil) xR_ xR_ rfl) ?_) | (guard_target =~ IsG; first | refine psA ?_ | (guard_target =~ Z3; first | refine Za.doit rfl rfl (sC_ (hB) mA8 rD8 rfl) ?_ | refine Za.doit rfl rfl (sI_ (hNA) iA (.mv vA_ .nil) (.mv .nil) xR_ xR_ rfl) ?_)) | refine ax_ ?_ | ((first | refine Zd.ret (.cell inferInstance rfl rfl .nil) rfl ?_ ?_ | refine Zd.normal (.cell inferInstance rfl rfl .nil) rfl ?_ ?_) <;> try exact rfl)|fail)
     all_goals first | (exfalso; omega) | rfl | (exfalso; simp_all; done)
    ·repeat' (first | (refine w2_ ?_ ?_ <;> intro _) | (guard_target =~ Zh; first | refine kM_ hB ?_ | refine Za.cons (sI_ (hNA) iA (.mv vA_ .nil) (.mv .nil) xR_ xR_ rfl) ?_) | (guard_target =~ IsG; first | refine psA ?_ | (guard_target =~ Z3; first | refine Za.doit rfl rfl (sC_ (hB) mA8 rD8 rfl) ?_ | refine Za.doit rfl rfl (sI_ (hNA) iA (.mv vA_ .nil) (.mv .nil) xR_ xR_ rfl) ?_)) | refine ax_ ?_ | ((first | refine Zd.ret (.cell inferInstance rfl rfl .nil) rfl ?_ ?_ | refine Zd.normal (.cell inferInstance rfl rfl .nil) rfl ?_ ?_) <;> try exact rfl)|fail)
     all_goals first | (exfalso; omega) | rfl | (exfalso; simp_all; done)
   ·repeat' (first | (refine w2_ ?_ ?_ <;> intro _) | (guard_target =~ Zh; first | refine kM_ hB ?_ | refine Za.cons (sI_ (hN1) iA (.sh .nil) (.sh lcA .nil) xR_ xR_ rfl) ?_ | refine Za.cons (sI_ (hNC) iA (.mv vA_ .nil) (.mv .nil) xR_ xR_ rfl) ?_) | (guard_target =~ IsG; first | refine psA ?_ | (guard_target =~ Z3; first | refine Za.doit rfl rfl (sC_ (hB) mA8 rD8 rfl) ?_ | refine Za.doit rfl rfl (sI_ (hN1) iA (.sh .nil) (.sh lcA .nil) xR_ xR_ rfl) ?_ | refine Za.doit rfl rfl (sI_ (hNC) iA (.mv vA_ .nil) (.mv .nil) xR_ xR_ rfl) ?_)) | refine ax_ ?_ | ((first | refine Zd.ret (.cell inferInstance rfl rfl .nil) rfl ?_ ?_ | refine Zd.normal (.cell inferInstance rfl rfl .nil) rfl ?_ ?_) <;> try exact rfl)|fail)
    all_goals first | (exfalso; omega) | rfl | (exfalso; simp_all; done)
   ·repeat' (first | (refine w2_ ?_ ?_ <;> intro _) | (guard_target =~ Zh; first | refine kM_ hB ?_ | refine Za.cons (sI_ (hN1) iA (.sh .nil) (.sh lcA .nil) xR_ xR_ rfl) ?_) | (guard_target =~ IsG; first | refine psA ?_ | (guard_target =~ Z3; first | refine Za.doit rfl rfl (sC_ (hB) mA8 rD8 rfl) ?_ | refine Za.doit rfl rfl (sI_ (hN1) iA (.sh .nil) (.sh lcA .nil) xR_ xR_ rfl) ?_)) | refine ax_ ?_ | ((first | refine Zd.ret (.cell inferInstance rfl rfl .nil) rfl ?_ ?_ | refine Zd.normal (.cell inferInstance rfl rfl .nil) rfl ?_ ?_) <;> try exact rfl)|fail)
    all_goals first | (exfalso; omega) | rfl | (exfalso; simp_all; done)
  | k + 1, .skip (x := x) (s1 := t1) h1 hm r =>
   clear hcase hB hN1 hNA hNC hTl
   have hN := h1.2.2
   have hx := h1.1
   have hx0 := hx.1
   have hx4 : x <= 3 := by have := hx.2.2 j2; omega
   have b1 : 0 <= n * (2 + x) /\ n * (2 + x) <= 64 * 5 := ⟨Int.mul_nonneg j2 j2, Int.mul_le_mul j2 j2 j2 j2⟩
   clear h1 hx
   repeat' (first | (refine w2_ ?_ ?_ <;> intro _) | (guard_target =~ Zh; first | refine Za.cons (sI_ (hN) iA (.sh .nil) (.sh lcA .nil) xR_ xR_ rfl) ?_) | (guard_target =~ IsG; first | refine psA ?_ | (guard_target =~ Z3; first | refine Za.doit rfl rfl (sI_ (hN) iA (.sh .nil) (.sh lcA .nil) xR_ xR_ rfl) ?_)) | refine ax_ ?_ | ((first | refine Zd.ret (.cell inferInstance rfl rfl .nil) rfl ?_ ?_ | refine Zd.normal (.cell inferInstance rfl rfl .nil) rfl ?_ ?_) <;> try exact rfl)|fail)
   all_goals try (exfalso; omega)
   exact ⟨(k, ps, n, t1, _), ⟨r, hn, by simp only; omega⟩, ⟨rfl, rfl, rfl, rfl, xR_, rfl, Zb (by simp), trivial⟩, by simp only; omega⟩
  | k + 1, .more (x := x) (s1 := t1) (v := v) (s2 := t2) (y := y) (s3 := t3) h1 hm h2 h3 hy r =>
   clear hcase hB hN1 hNA hNC hTl
   have hN1 := h1.2.2
   have hN2 := h2.2.2
   have hN3 := h3.2.2
   have hx := h1.1
   have hx0 := hx.1
   have hx4 : x <= 3 := by have := hx.2.2 j2; omega
   have b1 : 0 <= n * (2 + x) /\ n * (2 + x) <= 64 * 5 := ⟨Int.mul_nonneg j2 j2, Int.mul_le_mul j2 j2 j2 j2⟩
   have b2 : 1 * 1 <= n * (2 + x) := Int.mul_le_mul j2 j2 j2 j2
   have hc := Zl4 (own := 2 + x) (c := 1 + y) j2 j2
   have hc2 := Zl4 (own := 2 + x) (c := cop (2 + x) (1 + y) 5 + (2 + x)) j2 j2
   have hD := fun c (hc : 0 <= c /\ c <= 100) => Zqx c (2 + x) j2 j2
   clear h1 h2 h3 hx
   by_cases hps : ps.length = 0
   ·rw [c3, if_pos hps] at r
    generalize hC1 : cop (2 + x) (1 + y) 5 = C1 at *
    generalize hC2 : cop (2 + x) (C1 + (2 + x)) 5 = C2 at *
    repeat' (first | (refine w2_ ?_ ?_ <;> intro _) | (guard_target =~ AtN 23; refine Za.cons (sI_ (hN1) iA (.sh .nil) (.sh lcA .nil) xR_ xR_ rfl) ?_) | (guard_target =~ AtN 34; refine Za.cons (sI_ (hN3) iA (.sh .nil) (.sh lcA .nil) xR_ xR_ rfl) ?_) | (guard_target =~ Zh; first | refine Za.cons (sI_ (hN2) iA (.mv vA_ .nil) (.mv .nil) xR_ xR_ rfl) ?_) | (guard_target =~ IsG; first | refine psA ?_ | (guard_target =~ Z3; first | refine Za.doit rfl rfl (sI_ (hN2) iA (.mv vA_ .nil) (.mv .nil) xR_ xR_ rfl) ?_)) | refine ax_ ?_ | ((first | refine Zd.ret (.cell inferInstance rfl rfl .nil) rfl ?_ ?_ | refine Zd.normal (.cell inferInstance rfl rfl .nil) rfl ?_ ?_) <;> try exact rfl)|fail)
    all_goals try (exfalso; omega)
    refine WpA.loop_slots (ι := Int × Nat) (fun q => [(0, .own 0 (dSs l t3)), (1, vI most), (2, vI term), (6, .own 3 (.pt true [.sl true 1 []])), (7, .own id (.sl true 1 (LL ps))), (8, vI n), (9, vI ((k + 1 : Nat) : Int)), (10, vI (2 + x)), (11, vI q.1)]) (fun q => cop (2 + x) q.1 q.2 = C1 /\ 0 <= q.1 /\ q.1 + q.2 <= 60) (fun q => q.2) (1 + y, 5) ⟨hC1, by simp only; omega, by simp only; omega⟩ ⟨rfl, rfl, rfl, rfl, rfl, rfl, rfl, rfl, rfl, trivial⟩ ?_
    rintro ⟨c, f⟩ st nx ⟨h1, h2, h3⟩
    simp only at h1 h2 h3
    dsimp only
    have hD1 := hD c j2
    match f, h1 with
    | 0, h1 =>
     have h1 : c = C1 := h1
     subst h1
     repeat' (first | (refine w2_ ?_ ?_ <;> intro _) | refine kM_ hD1 ?_ | (guard_target =~ IsG; first | refine psA ?_ | (guard_target =~ Z3; first | refine Za.doit rfl rfl (sC_ (hD1) mA8 rD8 rfl) ?_)) | refine ax_ ?_ | ((first | refine Zd.ret (.cell inferInstance rfl rfl .nil) rfl ?_ ?_ | refine Zd.normal (.cell inferInstance rfl rfl .nil) rfl ?_ ?_) <;> try exact rfl)|fail)
     all_goals try (exfalso; omega)
     refine WpA.loop_slots (ι := Int × Nat) (fun q => [(0, .own 0 (dSs l t3)), (1, vI most), (2, vI term), (6, .own 3 (.pt true [.sl true 1 []])), (7, .own id (.sl true 1 (LL ps))), (8, vI n), (9, vI ((k + 1 : Nat) : Int)), (10, vI (2 + x)), (11, vI q.1)]) (fun q => cop (2 + x) q.1 q.2 = C2 /\ 0 <= q.1 /\ q.1 + q.2 <= 60) (fun q => q.2) (c + (2 + x), 5) ⟨hC2, by simp only; omega, by simp only; omega⟩ ⟨rfl, rfl, rfl, rfl, rfl, rfl, rfl, rfl, rfl, trivial⟩ ?_
     rintro ⟨c, f⟩ st nx ⟨h1, h2, h3⟩
     simp only at h1 h2 h3
     dsimp only
     have hD := hD c j2
     match f, h1 with
     | 0, h1 =>
      have h1 : c = C2 := h1
      subst h1
      repeat' (first | (refine w2_ ?_ ?_ <;> intro _) | refine kM_ hD ?_ | (guard_target =~ IsG; first | refine psA ?_ | (guard_target =~ Z3; first | refine Za.doit rfl rfl (sC_ (hD) mA8 rD8 rfl) ?_)) | refine ax_ ?_ | ((first | refine Zd.ret (.cell inferInstance rfl rfl .nil) rfl ?_ ?_ | refine Zd.normal (.cell inferInstance rfl rfl .nil) rfl ?_ ?_) <;> try exact rfl)|fail)
      all_goals try (exfalso; omega)
      exact ⟨(k, ps ++ [[c, 2 + x]], n * (2 + x), t3, _), ⟨r, by simp only; omega, by simp; omega⟩, ⟨rfl, rfl, rfl, rfl, by exact V1 rfl, rfl, Zb (by simp), trivial⟩, by simp only; omega⟩
     | f + 1, h1 =>
      rw [cop] at h1
      by_cases hg : 1 < (Int.gcd c (2 + x) : Int)
      ·rw [if_pos hg] at h1
       repeat' (first | (refine w2_ ?_ ?_ <;> intro _) | refine kM_ hD ?_ | (guard_target =~ IsG; first | refine psA ?_ | (guard_target =~ Z3; first | refine Za.doit rfl rfl (sC_ (hD) mA8 rD8 rfl) ?_)) | refine ax_ ?_ | ((first | refine Zd.ret (.cell inferInstance rfl rfl .nil) rfl ?_ ?_ | refine Zd.normal (.cell inferInstance rfl rfl .nil) rfl ?_ ?_) <;> try exact rfl)|fail)
       all_goals try (exfalso; omega)
       exact ⟨(c + 1, f), ⟨h1, by simp only; omega, by simp only; omega⟩, ⟨rfl, rfl, rfl, rfl, rfl, rfl, rfl, rfl, rfl, trivial⟩, by simp only; omega⟩
      ·rw [if_neg hg] at h1
       subst h1
       repeat' (first | (refine w2_ ?_ ?_ <;> intro _) | refine kM_ hD ?_ | (guard_target =~ IsG; first | refine psA ?_ | (guard_target =~ Z3; first | refine Za.doit rfl rfl (sC_ (hD) mA8 rD8 rfl) ?_)) | refine ax_ ?_ | ((first | refine Zd.ret (.cell inferInstance rfl rfl .nil) rfl ?_ ?_ | refine Zd.normal (.cell inferInstance rfl rfl .nil) rfl ?_ ?_) <;> try exact rfl)|fail)
       all_goals try (exfalso; omega)
       exact ⟨(k, ps ++ [[c, 2 + x]], n * (2 + x), t3, _), ⟨r, by simp only; omega, by simp; omega⟩, ⟨rfl, rfl, rfl, rfl, by exact V1 rfl, rfl, Zb (by simp), trivial⟩, by simp only; omega⟩
    | f + 1, h1 =>
     rw [cop] at h1
     by_cases hg : 1 < (Int.gcd c (2 + x) : Int)
     ·rw [if_pos hg] at h1
      repeat' (first | (refine w2_ ?_ ?_ <;> intro _) | refine kM_ hD1 ?_ | (guard_target =~ IsG; first | refine psA ?_ | (guard_target =~ Z3; first | refine Za.doit rfl rfl (sC_ (hD1) mA8 rD8 rfl) ?_)) | refine ax_ ?_ | ((first | refine Zd.ret (.cell inferInstance rfl rfl .nil) rfl ?_ ?_ | refine Zd.normal (.cell inferInstance rfl rfl .nil) rfl ?_ ?_) <;> try exact rfl)|fail)
      all_goals try (exfalso; omega)
      exact ⟨(c + 1, f), ⟨h1, by simp only; omega, by simp only; omega⟩, ⟨rfl, rfl, rfl, rfl, rfl, rfl, rfl, rfl, rfl, trivial⟩, by simp only; omega⟩
     ·rw [if_neg hg] at h1
      subst h1
      repeat' (first | (refine w2_ ?_ ?_ <;> intro _) | refine kM_ hD1 ?_ | (guard_target =~ IsG; first | refine psA ?_ | (guard_target =~ Z3; first | refine Za.doit rfl rfl (sC_ (hD1) mA8 rD8 rfl) ?_)) | refine ax_ ?_ | ((first | refine Zd.ret (.cell inferInstance rfl rfl .nil) rfl ?_ ?_ | refine Zd.normal (.cell inferInstance rfl rfl .nil) rfl ?_ ?_) <;> try exact rfl)|fail)
      all_goals try (exfalso; omega)
      refine WpA.loop_slots (ι := Int × Nat) (fun q => [(0, .own 0 (dSs l t3)), (1, vI most), (2, vI term), (6, .own 3 (.pt true [.sl true 1 []])), (7, .own id (.sl true 1 (LL ps))), (8, vI n), (9, vI ((k + 1 : Nat) : Int)), (10, vI (2 + x)), (11, vI q.1)]) (fun q => cop (2 + x) q.1 q.2 = C2 /\ 0 <= q.1 /\ q.1 + q.2 <= 60) (fun q => q.2) (c + (2 + x), 5) ⟨hC2, by simp only; omega, by simp only; omega⟩ ⟨rfl, rfl, rfl, rfl, rfl, rfl, rfl, rfl, rfl, trivial⟩ ?_
      rintro ⟨c, f⟩ st nx ⟨h1, h2, h3⟩
      simp only at h1 h2 h3
      dsimp only
      have hD := hD c j2
      match f, h1 with
      | 0, h1 =>
       have h1 : c = C2 := h1
       subst h1
       repeat' (first | (refine w2_ ?_ ?_ <;> intro _) | refine kM_ hD ?_ | (guard_target =~ IsG; first | refine psA ?_ | (guard_target =~ Z3; first | refine Za.doit rfl rfl (sC_ (hD) mA8 rD8 rfl) ?_)) | refine ax_ ?_ | ((first | refine Zd.ret (.cell inferInstance rfl rfl .nil) rfl ?_ ?_ | refine Zd.normal (.cell inferInstance rfl rfl .nil) rfl ?_ ?_) <;> try exact rfl)|fail)
       all_goals try (exfalso; omega)
       exact ⟨(k, ps ++ [[c, 2 + x]], n * (2 + x), t3, _), ⟨r, by simp only; omega, by simp; omega⟩, ⟨rfl, rfl, rfl, rfl, by exact V1 rfl, rfl, Zb (by simp), trivial⟩, by simp only; omega⟩
      | f + 1, h1 =>
       rw [cop] at h1
       by_cases hg : 1 < (Int.gcd c (2 + x) : Int)
       ·rw [if_pos hg] at h1
        repeat' (first | (refine w2_ ?_ ?_ <;> intro _) | refine kM_ hD ?_ | (guard_target =~ IsG; first | refine psA ?_ | (guard_target =~ Z3; first | refine Za.doit rfl rfl (sC_ (hD) mA8 rD8 rfl) ?_)) | refine ax_ ?_ | ((first | refine Zd.ret (.cell inferInstance rfl rfl .nil) rfl ?_ ?_ | refine Zd.normal (.cell inferInstance rfl rfl .nil) rfl ?_ ?_) <;> try exact rfl)|fail)
        all_goals try (exfalso; omega)
        exact ⟨(c + 1, f), ⟨h1, by simp only; omega, by simp only; omega⟩, ⟨rfl, rfl, rfl, rfl, rfl, rfl, rfl, rfl, rfl, trivial⟩, by simp only; omega⟩
       ·rw [if_neg hg] at h1
        subst h1
        repeat' (first | (refine w2_ ?_ ?_ <;> intro _) | refine kM_ hD ?_ | (guard_target =~ IsG; first | refine psA ?_ | (guard_target =~ Z3; first | refine Za.doit rfl rfl (sC_ (hD) mA8 rD8 rfl) ?_)) | refine ax_ ?_ | ((first | refine Zd.ret (.cell inferInstance rfl rfl .nil) rfl ?_ ?_ | refine Zd.normal (.cell inferInstance rfl rfl .nil) rfl ?_ ?_) <;> try exact rfl)|fail)
        all_goals try (exfalso; omega)
        exact ⟨(k, ps ++ [[c, 2 + x]], n * (2 + x), t3, _), ⟨r, by simp only; omega, by simp; omega⟩, ⟨rfl, rfl, rfl, rfl, by exact V1 rfl, rfl, Zb (by simp), trivial⟩, by simp only; omega⟩
   ·rw [c3, if_neg hps] at r
    generalize hC1 : cop (2 + x) (1 + y) 5 = C1 at *
    clear hc2
    repeat' (first | (refine w2_ ?_ ?_ <;> intro _) | (guard_target =~ AtN 23; refine Za.cons (sI_ (hN1) iA (.sh .nil) (.sh lcA .nil) xR_ xR_ rfl) ?_) | (guard_target =~ AtN 34; refine Za.cons (sI_ (hN3) iA (.sh .nil) (.sh lcA .nil) xR_ xR_ rfl) ?_) | (guard_target =~ Zh; first | refine Za.cons (sI_ (hN2) iA (.mv vA_ .nil) (.mv .nil) xR_ xR_ rfl) ?_) | (guard_target =~ IsG; first | refine psA ?_ | (guard_target =~ Z3; first | refine Za.doit rfl rfl (sI_ (hN2) iA (.mv vA_ .nil) (.mv .nil) xR_ xR_ rfl) ?_)) | refine ax_ ?_ | ((first | refine Zd.ret (.cell inferInstance rfl rfl .nil) rfl ?_ ?_ | refine Zd.normal (.cell inferInstance rfl rfl .nil) rfl ?_ ?_) <;> try exact rfl)|fail)
    all_goals try (exfalso; omega)
    refine WpA.loop_slots (ι := Int × Nat) (fun q => [(0, .own 0 (dSs l t3)), (1, vI most), (2, vI term), (6, .own 3 (.pt true [.sl true 1 []])), (7, .own id (.sl true 1 (LL ps))), (8, vI n), (9, vI ((k + 1 : Nat) : Int)), (10, vI (2 + x)), (11, vI q.1)]) (fun q => cop (2 + x) q.1 q.2 = C1 /\ 0 <= q.1 /\ q.1 + q.2 <= 60) (fun q => q.2) (1 + y, 5) ⟨hC1, by simp only; omega, by simp only; omega⟩ ⟨rfl, rfl, rfl, rfl, rfl, rfl, rfl, rfl, rfl, trivial⟩ ?_
    rintro ⟨c, f⟩ st nx ⟨h1, h2, h3⟩
    simp only at h1 h2 h3
    dsimp only
    have hD1 := hD c j2
    match f, h1 with
    | 0, h1 =>
     have h1 : c = C1 := h1
     subst h1
     repeat' (first | (refine w2_ ?_ ?_ <;> intro _) | refine kM_ hD1 ?_ | (guard_target =~ IsG; first | refine psA ?_ | (guard_target =~ Z3; first | refine Za.doit rfl rfl (sC_ (hD1) mA8 rD8 rfl) ?_)) | refine ax_ ?_ | ((first | refine Zd.ret (.cell inferInstance rfl rfl .nil) rfl ?_ ?_ | refine Zd.normal (.cell inferInstance rfl rfl .nil) rfl ?_ ?_) <;> try exact rfl)|fail)
     all_goals try (exfalso; omega)
     exact ⟨(k, ps ++ [[c, 2 + x]], n * (2 + x), t3, _), ⟨r, by simp only; omega, by simp; omega⟩, ⟨rfl, rfl, rfl, rfl, by exact V1 rfl, rfl, Zb (by simp), trivial⟩, by simp only; omega⟩
    | f + 1, h1 =>
     rw [cop] at h1
     by_cases hg : 1 < (Int.gcd c (2 + x) : Int)
     ·rw [if_pos hg] at h1
      repeat' (first | (refine w2_ ?_ ?_ <;> intro _) | refine kM_ hD1 ?_ | (guard_target =~ IsG; first | refine psA ?_ | (guard_target =~ Z3; first | refine Za.doit rfl rfl (sC_ (hD1) mA8 rD8 rfl) ?_)) | refine ax_ ?_ | ((first | refine Zd.ret (.cell inferInstance rfl rfl .nil) rfl ?_ ?_ | refine Zd.normal (.cell inferInstance rfl rfl .nil) rfl ?_ ?_) <;> try exact rfl)|fail)
      all_goals try (exfalso; omega)
      exact ⟨(c + 1, f), ⟨h1, by simp only; omega, by simp only; omega⟩, ⟨rfl, rfl, rfl, rfl, rfl, rfl, rfl, rfl, rfl, trivial⟩, by simp only; omega⟩
     ·rw [if_neg hg] at h1
      subst h1
      repeat' (first | (refine w2_ ?_ ?_ <;> intro _) | refine kM_ hD1 ?_ | (guard_target =~ IsG; first | refine psA ?_ | (guard_target =~ Z3; first | refine Za.doit rfl rfl (sC_ (hD1) mA8 rD8 rfl) ?_)) | refine ax_ ?_ | ((first | refine Zd.ret (.cell inferInstance rfl rfl .nil) rfl ?_ ?_ | refine Zd.normal (.cell inferInstance rfl rfl .nil) rfl ?_ ?_) <;> try exact rfl)|fail)
      all_goals try (exfalso; omega)
      exact ⟨(k, ps ++ [[c, 2 + x]], n * (2 + x), t3, _), ⟨r, by simp only; omega, by simp; omega⟩, ⟨rfl, rfl, rfl, rfl, by exact V1 rfl, rfl, Zb (by simp), trivial⟩, by simp only; omega⟩
 have pick : ∀ x, (∃ i, i < [1, 2, 3].length /\ x = ([1, 2, 3] : List Int).getD i 0) -> Vq [x] \/ [x] = [1] \/ [x] = [2] \/ [x] = [3] := by
  rintro x ⟨i, hi, rfl⟩
  match i, hi with
  | 0, _ => simp
  | 1, _ => simp
  | 2, _ => simp
 have gA := fun hc => main [xA] sA (.inl ⟨hc, rfl, rfl⟩)
 rcases hT with ⟨hc, hbr⟩ | ⟨hc, _⟩
 ·have hT1 := (Zl0 hbr).len.1
  by_cases ht : T.getD (((T.length : Int) - 1).toNat * 1) 0 <= term
  ·by_cases hx : x1 = 0
   ·exact ⟨_, _, pick _ dC.1, dC.2.1, main [xC] sC (.inr ⟨⟨hc, hT1, ht⟩, .inl ⟨hx, rfl, rfl⟩⟩)⟩
   ·exact ⟨_, _, .inl hbr, d1.2.1, main T s1 (.inr ⟨⟨hc, hT1, ht⟩, .inr ⟨hx, rfl, rfl⟩⟩)⟩
  ·exact ⟨_, _, pick _ dA.1, dA.2.1, gA (.inr ⟨hc, hT1, by omega⟩)⟩
 ·exact ⟨_, _, pick _ dA.1, dA.2.1, gA (.inl hc)⟩
end Go.Proofs.YtmgmpnhlehonmaaGreat
namespace Go.Pv
open Go.RowKit
section
variable {P : Program} {n : NN} {nid nx : Nat} {st : Nat -> AV} {f : Fr} {X : Nat -> Prop} {a : Act} {w : World} {ρ : Nat -> Rho} {L : Nat -> List Nat} {Q : Exit -> (Nat -> AV) -> Nat -> Prop}
theorem WpA.reroot {c : Code} {x y id : Nat} {cs : List D} (hxy : (x == y) = false) (hx : st x = .own id (.pt true cs)) (hy : st y = .ptr x id [] 0)
  (h : WpA P n c (put (put st x (.ptr y id [] 0)) y (.own id (.pt true cs))) nx Q) : WpA P n c st nx Q := by
 have hxy : x ≠ y := by simpa using hxy
 refine WpA.of0 ?_
 intro f a w hn hrep
 obtain ⟨ρ, L, hr⟩ := hrep
 refine h f a w hn (.of ⟨ρ, fun t => if t = y then L x else if t = x then [] else L t, ?_⟩)
 have k1 := hr.slots x
 rw [hx] at k1
 simp only [SR] at k1
 have k2 := hr.slots y
 rw [hy] at k2
 simp only [SR] at k2
 obtain ⟨eLy, b, hb, e2⟩ := k2
 have k3 := k1
 simp only [RD] at k3
 obtain ⟨e1, g, us, L1, e, e3, _⟩ := k3
 have hb' : b = ⟨g, 0, none⟩ := by
  rw [<- e1, e3] at hb
  simpa [Js] using hb.symm
 subst hb'
 have e4 : tmp a y = tmp a x := by rw [e2, e3, Vi]
 have hsub : ∀ t g', g' ∈ (if t = y then L x else if t = x then [] else L t) -> ∃ u, g' ∈ L u /\ (t = y /\ u = x \/ t ≠ y /\ t ≠ x /\ u = t) := by
  intro t g' hg
  by_cases h1 : t = y
  ·rw [if_pos h1] at hg; exact ⟨x, hg, .inl ⟨h1, rfl⟩⟩
  ·rw [if_neg h1] at hg
   by_cases h2 : t = x
   ·rw [if_pos h2] at hg; simp at hg
   ·rw [if_neg h2] at hg; exact ⟨t, hg, .inr ⟨h1, h2, rfl⟩⟩
 refine ⟨hr.defers, hr.size, hr.hold, hr.keep, fun s => ?_, fun s => ?_, fun s u hsu g' hg hgu => ?_, fun s g' hg => ?_, fun s i hi => ?_, fun s g' hg => ?_, hr.names⟩
 ·by_cases h1 : s = y
  ·subst h1
   rw [Zo]
   simp only [if_true, SR]
   rw [e4]
   exact k1
  ·rw [Zi _ _ _ _ h1]
   by_cases h2 : s = x
   ·subst h2
    rw [Zo]
    simp only [if_neg h1, if_true, SR]
    exact ⟨trivial, ⟨g, 0, none⟩, hb, by rw [e3, Vi]⟩
   ·rw [Zi _ _ _ _ h2]
    simp only [if_neg h1, if_neg h2]
    exact hr.slots s
 ·skip
  split
  ·exact hr.nodup x
  ·split
   ·exact List.nodup_nil
   ·exact hr.nodup s
 ·obtain ⟨s', k1, h1⟩ := hsub s g' hg
  obtain ⟨u', k2, h2⟩ := hsub u g' hgu
  refine hr.disj s' u' ?_ g' k1 k2
  rintro rfl
  rcases h1 with ⟨h1, h3⟩ | ⟨h1, h3, h4⟩ <;> rcases h2 with ⟨h2, h5⟩ | ⟨h2, h5, h6⟩
  ·exact hsu (h1.trans h2.symm)
  ·exact h5 (h6.symm.trans h3)
  ·exact h3 (h4.symm.trans h5)
  ·exact hsu (h4.symm.trans h6)
 ·obtain ⟨s', k1, _⟩ := hsub s g' hg
  exact hr.bound s' g' k1
 ·by_cases h1 : s = y
  ·subst h1
   rw [Zo] at hi
   simp only [AV.ids, List.mem_singleton] at hi
   subst hi
   exact hr.ids x i (by rw [hx]; simp [AV.ids])
  ·rw [Zi _ _ _ _ h1] at hi
   by_cases h2 : s = x
   ·subst h2
    rw [Zo] at hi
    simp only [AV.ids, List.mem_singleton] at hi
    subst hi
    exact hr.ids s i (by rw [hx]; simp [AV.ids])
   ·rw [Zi _ _ _ _ h2] at hi
    exact hr.ids s i hi
 ·obtain ⟨s', k1, _⟩ := hsub s g' hg
  exact hr.mine s' g' k1
def Zqa : Code -> Option Nat
 | .seq a _ => Zqa a
 | .region _ ops _ => (ops[0]?).bind (·.dst)
 | _ => none
theorem WpA.rerootC {c : Code} (t x y : Nat) {id : Nat} {cs : List D} (ht : Zqa c = some t) (hxy : (x == y) = false) (hx : st x = .own id (.pt true cs)) (hy : st y = .ptr x id [] 0)
  (h : WpA P n c (put (put st x (.ptr y id [] 0)) y (.own id (.pt true cs))) nx Q) : WpA P n c st nx Q := WpA.reroot hxy hx hy h
end
end Go.Pv
namespace Go.Proofs.YtmgmpnhlehonmaaGreat
set_option maxRecDepth 100000
set_option maxHeartbeats 20000000
open Go.Pv
open Go.ChangeShapes Go.WideShapes Go.ChangeAt Go.RowKit
attribute [local irreducible] Za WpA Zg Xf Zz Z6 Zd
instance fnOk164 : Zs Tryz.prog 164 := ⟨_, Tryz.func164, rfl, by decide⟩
structure Gd (b : Int) (w : List Int) (E : List (List Int)) : Prop where
 len : 1 <= w.length
 bnd : ∀ i, -b <= w.getD i 0 /\ w.getD i 0 <= 2000
 row : ∀ r ∈ E, r.length = 2 /\ (0 <= r.getD 0 0 /\ r.getD 0 0 < w.length) /\ (0 <= r.getD 1 0 /\ r.getD 1 0 < w.length)
theorem Jc (w : List Int) (x : Int) (i : Nat) : (w ++ [x]).getD i 0 = if i < w.length then w.getD i 0 else if i = w.length then x else 0 := by
 by_cases h : i < w.length
 ·rw [if_pos h, List.getD_eq_getElem?_getD, List.getElem?_append_left h, <- List.getD_eq_getElem?_getD]
 ·rw [if_neg h]
  by_cases e : i = w.length
  ·subst e; simp
  ·rw [if_neg e, List.getD_eq_getElem?_getD, List.getElem?_eq_none u4]
   rfl
theorem Vm (w : List Int) (k : Nat) (x : Int) (i : Nat) : (w.set k x).getD i 0 = if k = i /\ k < w.length then x else w.getD i 0 := by
 by_cases e : k = i
 ·subst e
  by_cases h : k < w.length
  ·rw [if_pos ⟨rfl, h⟩, List.getD_eq_getElem?_getD, List.getElem?_set_self h]; rfl
  ·rw [if_neg (fun q => h q.2), List.set_eq_of_length_le j2]
 ·rw [if_neg (fun q => e q.1), List.getD_eq_getElem?_getD, List.getElem?_set_ne e, <- List.getD_eq_getElem?_getD]
theorem Gd.mono {b c : Int} {w : List Int} {E : List (List Int)} (h : Gd b w E) (hc : b <= c) : Gd c w E := ⟨h.len, fun i => by have := h.bnd i; omega, h.row⟩
theorem Gd.add {b : Int} {w : List Int} {E : List (List Int)} (h : Gd b w E) (hb : 4 <= b) {y : Int} (hy : 0 <= y /\ y < 4) : Gd b (w ++ [-1 - y]) E where
 len := by simp
 bnd := fun i => by
  have := h.bnd i
  rw [Jc]
  split
  ·exact this
  ·split <;> omega
 row := fun r hr => by
  have := h.row r hr
  simp only [List.length_append, List.length_singleton]
  omega
theorem Zrr {w : List Int} {E : List (List Int)} {v : Int} {m : Nat} (h : ∀ r ∈ E, r.length = 2 /\ (0 <= r.getD 0 0 /\ r.getD 0 0 < w.length) /\ (0 <= r.getD 1 0 /\ r.getD 1 0 < w.length)) (hv : 0 <= v /\ v < w.length) (hm : m = w.length + 1) : ∀ r ∈ bvE w E v, r.length = 2 /\ (0 <= r.getD 0 0 /\ r.getD 0 0 < m) /\ (0 <= r.getD 1 0 /\ r.getD 1 0 < m) := by
 intro r hr
 have hr2 := (Jp _).mem_iff.1 hr
 rcases List.mem_append.1 hr2 with h2 | h2
 ·have := h r h2; omega
 ·rw [List.mem_singleton] at h2
  subst h2
  simp
  omega
theorem Kd (w : List Int) (E : List (List Int)) (v : Int) : (bvE w E v).length = E.length + 1 := by
 unfold bvE
 rw [(Jp _).length_eq]
 simp
theorem Gd.vert {b : Int} {w : List Int} {E : List (List Int)} (h : Gd b w E) (hb : 4 <= b) {v : Int} (hv : 0 <= v /\ v < w.length) : Gd (b + 1) (bvW w v) (bvE w E v) where
 len := by simp [bvW]
 bnd := fun i => by
  have h1 := h.bnd i
  have h2 := h.bnd (v.toNat * 1)
  unfold bvW
  rw [Jc, List.length_set, Vm]
  split
  ·split <;> omega
  ·split <;> omega
 row := by
  have := Zrr (m := (bvW w v).length) h.row hv (by simp [bvW])
  exact this
theorem Zrs (w : List Int) (E : List (List Int)) (i k : Int) : (beE w E i k).length <= E.length + 2 := by
 unfold beE
 rw [(Jp _).length_eq]
 have := Zcl E [min i k, max i k] E.length
 unfold beR
 simp
 omega
theorem Gd.edge {b : Int} {w : List Int} {E : List (List Int)} (h : Gd b w E) (hb : 4 <= b) {i k : Int} (hi : 0 <= i /\ i < w.length) (hk : 0 <= k /\ k < w.length) : Gd (b + 2) (beW w i k) (beE w E i k) where
 len := by simp [beW]
 bnd := fun j => by
  have h1 := h.bnd j
  have h2 := h.bnd (i.toNat * 1)
  have h3 := h.bnd (k.toNat * 1)
  unfold beW
  simp only [Vm, Jc, List.length_set, List.length_append, List.length_singleton]
  (repeat' split) <;> omega
 row := fun r hr => by
  have hr2 := (Jp _).mem_iff.1 hr
  have hl : (beW w i k).length = w.length + 1 := by simp [beW]
  rw [hl]
  unfold beR at hr2
  rcases List.mem_append.1 hr2 with h2 | h2
  ·have := h.row r (Zh1 _ (Nat.le_refl _) r h2); omega
  ·simp at h2
   rcases h2 with rfl | rfl
   ·simp; omega
   ·simp; omega
inductive Ke (l : List Int) (kd : Int) : Nat -> List Int -> List (List Int) -> St -> List Int -> List (List Int) -> St -> Prop
 | done {w E s} : Ke l kd 0 w E s w E s
 | edge {k w E s v s1 x s2 e s3 W EE S} (h1 : Dr1 l s w.length v s1) (hk : kd = 0) (hE : 0 < E.length) (h2 : Dr1 l s1 2 x s2) (hx : x = 0) (h3 : Dr1 l s2 E.length e s3)
   (r : Ke l kd k (beW w ((E.getD (e.toNat * 1) []).getD (0 * 1) 0) ((E.getD (e.toNat * 1) []).getD (1 * 1) 0)) (beE w E ((E.getD (e.toNat * 1) []).getD (0 * 1) 0) ((E.getD (e.toNat * 1) []).getD (1 * 1) 0)) s3 W EE S) : Ke l kd (k + 1) w E s W EE S
 | vnone {k w E s v s1 W EE S} (h1 : Dr1 l s w.length v s1) (hk : kd = 0) (hE : E.length = 0) (r : Ke l kd k (bvW w v) (bvE w E v) s1 W EE S) : Ke l kd (k + 1) w E s W EE S
 | vert {k w E s v s1 x s2 W EE S} (h1 : Dr1 l s w.length v s1) (hk : kd = 0) (hE : 0 < E.length) (h2 : Dr1 l s1 2 x s2) (hx : ¬ x = 0) (r : Ke l kd k (bvW w v) (bvE w E v) s2 W EE S) : Ke l kd (k + 1) w E s W EE S
 | one {k w E s v s1 y s2 W EE S} (h1 : Dr1 l s w.length v s1) (hk : kd = 1) (h2 : Dr1 l s1 4 y s2) (r : Ke l kd k (w ++ [-1 - y]) (bvE w E v) s2 W EE S) : Ke l kd (k + 1) w E s W EE S
 | two {k w E s v s1 y s2 z s3 W EE S} (h1 : Dr1 l s w.length v s1) (hk : ¬ kd = 0 /\ ¬ kd = 1) (h2 : Dr1 l s1 4 y s2) (h3 : Dr1 l s2 8 z s3) (hz : 0 < z) (r : Ke l kd k (w ++ [-1 - y]) (bvE w E v) s3 W EE S) : Ke l kd (k + 1) w E s W EE S
 | lone {k w E s v s1 y s2 z s3 W EE S} (h1 : Dr1 l s w.length v s1) (hk : ¬ kd = 0 /\ ¬ kd = 1) (h2 : Dr1 l s1 4 y s2) (h3 : Dr1 l s2 8 z s3) (hz : ¬ 0 < z) (r : Ke l kd k (w ++ [-1 - y]) E s3 W EE S) : Ke l kd (k + 1) w E s W EE S
theorem Gd.addE {b : Int} {w : List Int} {E : List (List Int)} (h : Gd b w E) (hb : 4 <= b) {y : Int} (hy : 0 <= y /\ y < 4) {v : Int} (hv : 0 <= v /\ v < w.length) : Gd b (w ++ [-1 - y]) (bvE w E v) where
 len := by simp
 bnd := (h.add hb hy).bnd
 row := Zrr h.row hv (by simp)
theorem Zqb {w : List Int} {E : List (List Int)} {b : Int} (h : Gd b w E) {e : Int} (he : 0 <= e /\ e < E.length) : (E.getD (e.toNat * 1) []).length = 2 /\ (0 <= (E.getD (e.toNat * 1) []).getD (0 * 1) 0 /\ (E.getD (e.toNat * 1) []).getD (0 * 1) 0 < w.length) /\ (0 <= (E.getD (e.toNat * 1) []).getD (1 * 1) 0 /\ (E.getD (e.toNat * 1) []).getD (1 * 1) 0 < w.length) := by
 have hlt : e.toNat * 1 < E.length := by omega
 have := h.row (E.getD (e.toNat * 1) []) (by rw [List.getD_eq_getElem?_getD, List.getElem?_eq_getElem hlt]; exact List.getElem_mem hlt)
 simpa only [Nat.zero_mul, Nat.one_mul] using this
theorem Kf {l : List Int} (hb : By l) {kd : Int} : ∀ (k : Nat) (b : Int) (w : List Int) (E : List (List Int)) (s : St), Gd b w E -> 4 <= b -> OkS l s -> ∃ W EE S, Ke l kd k w E s W EE S /\ Gd (b + 2 * k) W EE /\ OkS l S /\ W.length <= w.length + k /\ EE.length <= E.length + 2 * k
 | 0, b, w, E, s, hg, h4, hs => ⟨w, E, s, .done, hg.mono j2, hs, by omega, by omega⟩
 | k + 1, b, w, E, s, hg, h4, hs => by
  obtain ⟨v, s1, d1⟩ := Xc hb hs w.length
  have hl := hg.len
  have hv : 0 <= v /\ v < w.length := ⟨d1.1.1, d1.1.2.2 j2⟩
  by_cases h0 : kd = 0
  ·by_cases hE : 0 < E.length
   ·obtain ⟨x, s2, d2⟩ := Xc hb d1.2.1 2
    by_cases hx : x = 0
    ·obtain ⟨e, s3, d3⟩ := Xc hb d2.2.1 E.length
     have he : 0 <= e /\ e < E.length := ⟨d3.1.1, d3.1.2.2 j2⟩
     have hrow := Zqb hg he
     have hg2 := hg.edge h4 hrow.2.1 hrow.2.2
     have hle := Zrs w E ((E.getD (e.toNat * 1) []).getD (0 * 1) 0) ((E.getD (e.toNat * 1) []).getD (1 * 1) 0)
     have hlw : (beW w ((E.getD (e.toNat * 1) []).getD (0 * 1) 0) ((E.getD (e.toNat * 1) []).getD (1 * 1) 0)).length = w.length + 1 := by simp [beW]
     obtain ⟨W, EE, S, r, g, o, q1, q2⟩ := Kf hb (kd := kd) k (b + 2) _ _ s3 hg2 j2 d3.2.1
     exact ⟨W, EE, S, .edge d1 h0 hE d2 hx d3 r, g.mono j2, o, by omega, by omega⟩
    ·obtain ⟨W, EE, S, r, g, o, q1, q2⟩ := Kf hb (kd := kd) k (b + 1) _ _ s2 (hg.vert h4 hv) j2 d2.2.1
     have := Kd w E v
     have hlw : (bvW w v).length = w.length + 1 := by simp [bvW]
     exact ⟨W, EE, S, .vert d1 h0 hE d2 hx r, g.mono j2, o, by omega, by omega⟩
   ·obtain ⟨W, EE, S, r, g, o, q1, q2⟩ := Kf hb (kd := kd) k (b + 1) _ _ s1 (hg.vert h4 hv) j2 d1.2.1
    have := Kd w E v
    have hlw : (bvW w v).length = w.length + 1 := by simp [bvW]
    exact ⟨W, EE, S, .vnone d1 h0 j2 r, g.mono j2, o, by omega, by omega⟩
  ·obtain ⟨y, s2, d2⟩ := Xc hb d1.2.1 4
   have hy : 0 <= y /\ y < 4 := ⟨d2.1.1, d2.1.2.2 j2⟩
   have := Kd w E v
   have hlw : (w ++ [-1 - y]).length = w.length + 1 := by simp
   by_cases h1 : kd = 1
   ·obtain ⟨W, EE, S, r, g, o, q1, q2⟩ := Kf hb (kd := kd) k b _ _ s2 (hg.addE h4 hy hv) h4 d2.2.1
    exact ⟨W, EE, S, .one d1 h1 d2 r, g.mono j2, o, by omega, by omega⟩
   ·obtain ⟨z, s3, d3⟩ := Xc hb d2.2.1 8
    by_cases hz : 0 < z
    ·obtain ⟨W, EE, S, r, g, o, q1, q2⟩ := Kf hb (kd := kd) k b _ _ s3 (hg.addE h4 hy hv) h4 d3.2.1
     exact ⟨W, EE, S, .two d1 ⟨h0, h1⟩ d2 d3 hz r, g.mono j2, o, by omega, by omega⟩
    ·obtain ⟨W, EE, S, r, g, o, q1, q2⟩ := Kf hb (kd := kd) k b _ _ s3 (hg.add h4 hy) h4 d3.2.1
     exact ⟨W, EE, S, .lone d1 ⟨h0, h1⟩ d2 d3 hz r, g.mono j2, o, by omega, by omega⟩
theorem Zrt (w : List Int) (E : List (List Int)) (v : Int) : Zaf (E ++ [[v, (w.length : Int)]]) (E ++ [[v, (w.length : Int)]]).length = bvE w E v := rfl
abbrev dG2 (w : List Int) (E : List (List Int)) : D := .pt true [.sl true 1 (Ze w), .sl true 1 (LL E)]
theorem Zwl {l : List Int} (hb : By l) {s : St} (most : Int) (hm : 1 <= most /\ most <= 40) {x0 : Int} {s0 : St} (hN0 : Dr1 l s 3 x0 s0) {kd : Int} {s1 : St} (hN1 : Dr1 l s0 3 kd s1) {n : Int} {s2 : St} (hN2 : Dr1 l s1 most n s2)
  {W : List Int} {EE : List (List Int)} {S : St} (hgo : Ke l kd n.toNat [-1 - x0] [] s2 W EE S) {y : Int} {s3 : St} (hN3 : Dr1 l S 12 y s3) {R : List Int} {s' : St}
  (hlast : ¬ y = 0 /\ R = W /\ s' = s3 \/ y = 0 /\ ∃ p s4 q, Dr1 l s3 W.length p s4 /\ DrP l s4 [0, 1, 5, -1000, 1000] q s' /\ R = W.set (p.toNat * 1) q) :
  Xn Tryz.prog 164 (dSs l s) [aI most] [rGr R EE] (dSs l s') := by
 obtain ⟨b0, _, hC0⟩ := hN0
 obtain ⟨b1, _, hC1⟩ := hN1
 obtain ⟨b2, _, hC2⟩ := hN2
 have hn : 0 <= n /\ n < 40 := by have := b2.2.2 j2; omega
 have hx0 : 0 <= x0 /\ x0 < 3 := ⟨b0.1, b0.2.2 j2⟩
 clear b0 b1 b2
 refine cN_ _ Tryz.func164 rfl Tryz.ntmps164 ?_
 repeat' (first | (refine w2_ ?_ ?_ <;> intro _) | (guard_target =~ AtN 12; refine Za.cons (sI_ (hC0) iA (.sh .nil) (.sh lcA .nil) xR_ xR_ rfl) ?_) | (guard_target =~ AtN 17; refine Za.cons (sI_ (hC1) iA (.sh .nil) (.sh lcA .nil) xR_ xR_ rfl) ?_) | (guard_target =~ AtN 20; refine Za.cons (sI_ (hC2) iA (.sh .nil) (.sh lcA .nil) xR_ xR_ rfl) ?_) | refine ax_ ?_ | (refine neA ?_; first | ((first | refine Zd.ret (.cell inferInstance rfl rfl .nil) rfl ?_ ?_ | refine Zd.normal (.cell inferInstance rfl rfl .nil) rfl ?_ ?_) <;> try exact rfl))|fail)
 all_goals try (exfalso; omega)
 clear hC0 hC1 hC2
 refine WpA.loop_slots (ι := Nat × List Int × List (List Int) × St × Nat) (fun q => [(0, .own 0 (dSs l q.2.2.2.1)), (4, .own 2 (.pt true [.sl true 1 [], .sl true 1 []])), (5, .own q.2.2.2.2 (dG2 q.2.1 q.2.2.1)), (6, vG kd), (7, vG q.1)]) (fun q => Ke l kd q.1 q.2.1 q.2.2.1 q.2.2.2.1 W EE S /\ Gd (100 - 2 * q.1) q.2.1 q.2.2.1 /\ q.2.1.length + q.1 <= 41 /\ q.2.2.1.length + 2 * q.1 <= 80) (fun q => q.1) (n.toNat, [-1 - x0], [], s2, _) ⟨hgo, ⟨by simp, fun i => by
  rcases i with _ | i
  ·simp; omega
  ·simp; omega, fun r hr => by simp at hr⟩, by simp; omega, by simp; omega⟩ ⟨rfl, rfl, xR_, rfl, Zb u4, trivial⟩ ?_
 clear hgo hx0 hn
 rintro ⟨k, w, E, t, id⟩ st nx ⟨hgo, hg, hwl, hEl⟩
 simp only at hgo hg hwl hEl
 dsimp only
 have hl1 := hg.len
 have hbd := hg.bnd
 have hr2 : ∀ r ∈ E, r.length = 2 := fun r hr => (hg.row r hr).1
 cases hgo with
 | done =>
  obtain ⟨b3, _, hC3⟩ := hN3
  rcases hlast with ⟨hy, rfl, rfl⟩ | ⟨rfl, p, s4, q, ⟨b4, _, hC4⟩, ⟨_, _, hC5⟩, rfl⟩
  ·clear hg hbd hr2
   repeat' (first | (refine w2_ ?_ ?_ <;> intro _) | (guard_target =~ AtN 93; refine Za.cons (sI_ (hC3) iA (.sh .nil) (.sh lcA .nil) xR_ xR_ rfl) ?_) | refine ax_ ?_ | (refine neA ?_; first | ((first | refine Zd.ret (.cell inferInstance rfl rfl .nil) rfl ?_ ?_ | refine Zd.normal (.cell inferInstance rfl rfl .nil) rfl ?_ ?_) <;> try exact rfl))|fail)
   all_goals first | rfl | (exfalso; omega)
  ·have hp : 0 <= p /\ p < W.length := ⟨b4.1, b4.2.2 j2⟩
   clear hg hbd hr2
   repeat' (first | (refine w2_ ?_ ?_ <;> intro _) | (guard_target =~ IsW; first | refine WpA.rerootC 95 0 92 rfl rfl rfl rfl ?_ | refine WpA.rerootC 106 92 0 rfl rfl rfl rfl ?_) | (guard_target =~ AtN 93; refine Za.cons (sI_ (hC3) iA (.sh .nil) (.sh lcA .nil) xR_ xR_ rfl) ?_) | (guard_target =~ AtN 101; refine Za.cons (sI_ (hC4) iA (.sh .nil) (.sh lcA .nil) xR_ xR_ rfl) ?_) | (guard_target =~ AtN 104; refine Za.cons (sI_ (hC5) iA (.mv vA_ .nil) (.mv .nil) xR_ xR_ rfl) ?_) | (guard_target =~ IsN; first | refine Za.cons (Xe (.cons (.lit rfl) (.cons (.lit rfl) (.cons (.lit rfl) (.cons (.lit rfl) (.cons (.lit rfl) .nil))))) xR_ (by decide) rfl) ?_) | (guard_target =~ IsG; first | refine psA ?_ | refine Za.doit rfl rfl (Xe (.cons (.lit rfl) (.cons (.lit rfl) (.cons (.lit rfl) (.cons (.lit rfl) (.cons (.lit rfl) .nil))))) xR_ (by decide) rfl) ?_) | refine ax_ ?_ | (refine neA ?_; first | ((first | refine Zd.ret (.cell inferInstance rfl rfl .nil) rfl ?_ ?_ | refine Zd.normal (.cell inferInstance rfl rfl .nil) rfl ?_ ?_) <;> try exact rfl))|fail)
   all_goals first | rfl | (exfalso; omega)
 | vnone h1 hk hE r =>
  rename_i k v s1
  obtain ⟨b1, _, hC1⟩ := h1
  have hv : 0 <= v /\ v < w.length := ⟨b1.1, b1.2.2 j2⟩
  have hBV := Zrd w E v j2 j2 hr2 hv (fun i => by have := hbd i; omega)
  have hg2 := hg.vert j2 hv
  have hq1 := Kd w E v
  have hq2 : (bvW w v).length = w.length + 1 := by simp [bvW]
  subst hk
  clear hg hbd hr2 hN3 hlast
  repeat' (first | (refine w2_ ?_ ?_ <;> intro _) | (guard_target =~ AtN 30; refine Za.cons (sI_ (hC1) iA (.sh .nil) (.sh lcA .nil) xR_ xR_ rfl) ?_) | (guard_target =~ Zh; first | refine Za.cons (sC_ (hBV) (.sh (.sh .nil)) (.shAgg rfl gA_ (.sh wS_ .nil)) rfl) ?_) | (guard_target =~ IsG; first | refine psA ?_ | (guard_target =~ Z3; first | refine Za.doit rfl rfl (sC_ (hBV) (.sh (.sh .nil)) (.shAgg rfl gA_ (.sh wS_ .nil)) rfl) ?_)) | refine ax_ ?_ | (refine neA ?_; first | ((first | refine Zd.ret (.cell inferInstance rfl rfl .nil) rfl ?_ ?_ | refine Zd.normal (.cell inferInstance rfl rfl .nil) rfl ?_ ?_) <;> try exact rfl))|fail)
  all_goals try (exfalso; omega)
  all_goals exact ⟨(k, bvW w v, bvE w E v, s1, _), ⟨r, hg2.mono p9, by simp only; omega, by simp only; omega⟩, ⟨rfl, rfl, xR_, rfl, Zb p9, trivial⟩, by simp only; omega⟩
 | edge h1 hk hE h2 hx h3 r =>
  rename_i k v s1 x s2 e s3
  obtain ⟨b1, _, hC1⟩ := h1
  obtain ⟨b2, _, hC2⟩ := h2
  obtain ⟨b3, _, hC3⟩ := h3
  have hv : 0 <= v /\ v < w.length := ⟨b1.1, b1.2.2 j2⟩
  have he : 0 <= e /\ e < E.length := ⟨b3.1, b3.2.2 j2⟩
  obtain ⟨r1, r2, r3⟩ := Zqb hg he
  have hg2 := hg.edge j2 r2 r3
  have hq1 := Zrs w E ((E.getD (e.toNat * 1) []).getD (0 * 1) 0) ((E.getD (e.toNat * 1) []).getD (1 * 1) 0)
  have hq2 : (beW w ((E.getD (e.toNat * 1) []).getD (0 * 1) 0) ((E.getD (e.toNat * 1) []).getD (1 * 1) 0)).length = w.length + 1 := by simp [beW]
  have hBE := Zyh w E ((E.getD (e.toNat * 1) []).getD (0 * 1) 0) ((E.getD (e.toNat * 1) []).getD (1 * 1) 0) j2 j2 hr2 r2 r3 (fun i => by have := hbd i; omega)
  subst hk hx
  clear hg hbd hr2 hN3 hlast
  repeat' (first | (refine w2_ ?_ ?_ <;> intro _) | (guard_target =~ AtN 30; refine Za.cons (sI_ (hC1) iA (.sh .nil) (.sh lcA .nil) xR_ xR_ rfl) ?_) | (guard_target =~ AtN 75; refine Za.cons (sI_ (hC3) iA (.sh .nil) (.sh lcA .nil) xR_ xR_ rfl) ?_) | (guard_target =~ Zh; first | refine Za.cons (sC_ (hBE) (.sh (.sh (.sh .nil))) (.shAgg rfl gA_ (.sh wS_ (.sh wS_ .nil))) rfl) ?_) | (guard_target =~ IsG; first | refine psA ?_ | (guard_target =~ AtS 66; refine Za.doit rfl rfl (sI_ (hC2) iA (.sh .nil) (.sh lcA .nil) xR_ xR_ rfl) ?_) | (guard_target =~ Z3; first | refine Za.doit rfl rfl (sC_ (hBE) (.sh (.sh (.sh .nil))) (.shAgg rfl gA_ (.sh wS_ (.sh wS_ .nil))) rfl) ?_)) | refine ax_ ?_ | (refine neA ?_; first | ((first | refine Zd.ret (.cell inferInstance rfl rfl .nil) rfl ?_ ?_ | refine Zd.normal (.cell inferInstance rfl rfl .nil) rfl ?_ ?_) <;> try exact rfl))|fail)
  all_goals try (exfalso; omega)
  all_goals exact ⟨(k, beW w ((E.getD (e.toNat * 1) []).getD (0 * 1) 0) ((E.getD (e.toNat * 1) []).getD (1 * 1) 0), beE w E ((E.getD (e.toNat * 1) []).getD (0 * 1) 0) ((E.getD (e.toNat * 1) []).getD (1 * 1) 0), s3, _), ⟨r, hg2.mono p9, by simp only; omega, by simp only; omega⟩, ⟨rfl, rfl, xR_, rfl, Zb p9, trivial⟩, by simp only; omega⟩
 | vert h1 hk hE h2 hx r =>
  rename_i k v s1 x s2
  obtain ⟨b1, _, hC1⟩ := h1
  obtain ⟨b2, _, hC2⟩ := h2
  have hv : 0 <= v /\ v < w.length := ⟨b1.1, b1.2.2 j2⟩
  have hBV := Zrd w E v j2 j2 hr2 hv (fun i => by have := hbd i; omega)
  have hg2 := hg.vert j2 hv
  have hq1 := Kd w E v
  have hq2 : (bvW w v).length = w.length + 1 := by simp [bvW]
  subst hk
  clear hg hbd hr2 hN3 hlast
  repeat' (first | (refine w2_ ?_ ?_ <;> intro _) | (guard_target =~ AtN 30; refine Za.cons (sI_ (hC1) iA (.sh .nil) (.sh lcA .nil) xR_ xR_ rfl) ?_) | (guard_target =~ Zh; first | refine Za.cons (sC_ (hBV) (.sh (.sh .nil)) (.shAgg rfl gA_ (.sh wS_ .nil)) rfl) ?_) | (guard_target =~ IsG; first | refine psA ?_ | (guard_target =~ AtS 66; refine Za.doit rfl rfl (sI_ (hC2) iA (.sh .nil) (.sh lcA .nil) xR_ xR_ rfl) ?_) | (guard_target =~ Z3; first | refine Za.doit rfl rfl (sC_ (hBV) (.sh (.sh .nil)) (.shAgg rfl gA_ (.sh wS_ .nil)) rfl) ?_)) | refine ax_ ?_ | (refine neA ?_; first | ((first | refine Zd.ret (.cell inferInstance rfl rfl .nil) rfl ?_ ?_ | refine Zd.normal (.cell inferInstance rfl rfl .nil) rfl ?_ ?_) <;> try exact rfl))|fail)
  all_goals try (exfalso; omega)
  all_goals exact ⟨(k, bvW w v, bvE w E v, s2, _), ⟨r, hg2.mono p9, by simp only; omega, by simp only; omega⟩, ⟨rfl, rfl, xR_, rfl, Zb p9, trivial⟩, by simp only; omega⟩
 | one h1 hk h2 r =>
  rename_i k v s1 y s2
  obtain ⟨b1, _, hC1⟩ := h1
  obtain ⟨b2, _, hC2⟩ := h2
  have hv : 0 <= v /\ v < w.length := ⟨b1.1, b1.2.2 j2⟩
  have hy : 0 <= y /\ y < 4 := ⟨b2.1, b2.2.2 j2⟩
  have hSo := Hq (E ++ [[v, (w.length : Int)]]) u4 (fun r h => by
   rcases List.mem_append.1 h with h | h
   ·have := hr2 r h; omega
   ·rw [List.mem_singleton] at h; subst h; simp)
  rw [Zrt] at hSo
  have hg2 := hg.addE j2 hy hv
  have hq1 := Kd w E v
  have hq2 : (w ++ [-1 - y]).length = w.length + 1 := by simp
  subst hk
  clear hg hbd hr2 hN3 hlast
  repeat' (first | (refine w2_ ?_ ?_ <;> intro _) | (guard_target =~ AtN 30; refine Za.cons (sI_ (hC1) iA (.sh .nil) (.sh lcA .nil) xR_ xR_ rfl) ?_) | (guard_target =~ AtN 34; refine Za.cons (sI_ (hC2) iA (.sh .nil) (.sh lcA .nil) xR_ xR_ rfl) ?_) | refine kM_ hSo ?_ | (guard_target =~ IsG; first | refine psA ?_ | (guard_target =~ Z3; first | refine Za.doit rfl rfl (sC_ (hSo) mA8 rD8 rfl) ?_)) | refine ax_ ?_ | (refine neA ?_; first | ((first | refine Zd.ret (.cell inferInstance rfl rfl .nil) rfl ?_ ?_ | refine Zd.normal (.cell inferInstance rfl rfl .nil) rfl ?_ ?_) <;> try exact rfl))|fail)
  all_goals try (exfalso; omega)
  all_goals exact ⟨(k, w ++ [-1 - y], bvE w E v, s2, _), ⟨r, hg2.mono p9, by simp only; omega, by simp only; omega⟩, ⟨rfl, rfl, xR_, rfl, Zb p9, trivial⟩, by simp only; omega⟩
 | two h1 hk h2 h3 hz r =>
  rename_i k v s1 y s2 z s3
  obtain ⟨b1, _, hC1⟩ := h1
  obtain ⟨b2, _, hC2⟩ := h2
  obtain ⟨b3, _, hC3⟩ := h3
  have hv : 0 <= v /\ v < w.length := ⟨b1.1, b1.2.2 j2⟩
  have hy : 0 <= y /\ y < 4 := ⟨b2.1, b2.2.2 j2⟩
  have hSo := Hq (E ++ [[v, (w.length : Int)]]) u4 (fun r h => by
   rcases List.mem_append.1 h with h | h
   ·have := hr2 r h; omega
   ·rw [List.mem_singleton] at h; subst h; simp)
  rw [Zrt] at hSo
  have hg2 := hg.addE j2 hy hv
  have hq1 := Kd w E v
  have hq2 : (w ++ [-1 - y]).length = w.length + 1 := by simp
  clear hg hbd hr2 hN3 hlast
  repeat' (first | (refine w2_ ?_ ?_ <;> intro _) | (guard_target =~ AtN 30; refine Za.cons (sI_ (hC1) iA (.sh .nil) (.sh lcA .nil) xR_ xR_ rfl) ?_) | (guard_target =~ AtN 34; refine Za.cons (sI_ (hC2) iA (.sh .nil) (.sh lcA .nil) xR_ xR_ rfl) ?_) | refine kM_ hSo ?_ | (guard_target =~ IsG; first | refine psA ?_ | (guard_target =~ AtS 43; refine Za.doit rfl rfl (sI_ (hC3) iA (.sh .nil) (.sh lcA .nil) xR_ xR_ rfl) ?_) | (guard_target =~ Z3; first | refine Za.doit rfl rfl (sC_ (hSo) mA8 rD8 rfl) ?_)) | refine ax_ ?_ | (refine neA ?_; first | ((first | refine Zd.ret (.cell inferInstance rfl rfl .nil) rfl ?_ ?_ | refine Zd.normal (.cell inferInstance rfl rfl .nil) rfl ?_ ?_) <;> try exact rfl))|fail)
  all_goals try (exfalso; omega)
  all_goals exact ⟨(k, w ++ [-1 - y], bvE w E v, s3, _), ⟨r, hg2.mono p9, by simp only; omega, by simp only; omega⟩, ⟨rfl, rfl, xR_, rfl, Zb p9, trivial⟩, by simp only; omega⟩
 | lone h1 hk h2 h3 hz r =>
  rename_i k v s1 y s2 z s3
  obtain ⟨b1, _, hC1⟩ := h1
  obtain ⟨b2, _, hC2⟩ := h2
  obtain ⟨b3, _, hC3⟩ := h3
  have hv : 0 <= v /\ v < w.length := ⟨b1.1, b1.2.2 j2⟩
  have hy : 0 <= y /\ y < 4 := ⟨b2.1, b2.2.2 j2⟩
  have hg2 := hg.add j2 hy
  have hq2 : (w ++ [-1 - y]).length = w.length + 1 := by simp
  clear hg hbd hr2 hN3 hlast
  repeat' (first | (refine w2_ ?_ ?_ <;> intro _) | (guard_target =~ AtN 30; refine Za.cons (sI_ (hC1) iA (.sh .nil) (.sh lcA .nil) xR_ xR_ rfl) ?_) | (guard_target =~ AtN 34; refine Za.cons (sI_ (hC2) iA (.sh .nil) (.sh lcA .nil) xR_ xR_ rfl) ?_) | (guard_target =~ IsG; first | refine psA ?_ | (guard_target =~ AtS 43; refine Za.doit rfl rfl (sI_ (hC3) iA (.sh .nil) (.sh lcA .nil) xR_ xR_ rfl) ?_)) | refine ax_ ?_ | (refine neA ?_; first | ((first | refine Zd.ret (.cell inferInstance rfl rfl .nil) rfl ?_ ?_ | refine Zd.normal (.cell inferInstance rfl rfl .nil) rfl ?_ ?_) <;> try exact rfl))|fail)
  all_goals try (exfalso; omega)
  all_goals exact ⟨(k, w ++ [-1 - y], E, s3, _), ⟨r, hg2.mono p9, by simp only; omega, by simp only; omega⟩, ⟨rfl, rfl, xR_, rfl, Zb p9, trivial⟩, by simp only; omega⟩
instance fnOk119 : Zs Tryz.prog 119 := ⟨_, Tryz.func119, rfl, by decide⟩
theorem Zik {l : List Int} (hb : By l) : ∃ s : St, OkS l s /\ Zjf Tryz.prog 60 [aBy l] [.one (dSs l s)] [] := by
 obtain ⟨h, _, hF⟩ := Zyw l hb.len
 exact ⟨(0, h), ⟨by simp, by simp⟩, hF⟩
structure Gs (w : List Int) (E : List (List Int)) : Prop where
 lw : w.length <= 41
 b : ∀ i, -2000 <= w.getD i 0 /\ w.getD i 0 <= 2000
 le : E.length <= 600
 l2 : ∀ r ∈ E, r.length = 2
structure HidG (K : Prop) : Prop where
 out : K
theorem Xa2 {K G : Prop} (f : HidG K -> G) (k : K) : G := f ⟨k⟩
theorem WpA.forgetG {P : Program} {n : NN} {st : Nat -> AV} {nx : Nat} {c : Code} {Q : Exit -> (Nat -> AV) -> Nat -> Prop} (slots : Nat -> Nat -> Nat -> List (Nat × AV)) (a b d : Nat) (h0 : Has st (slots a b d)) (h : ∀ a b d s k, WpA P n c (Zn s (slots a b d)) k Q) : WpA P n c st nx Q := by
 have := h a b d st nx
 rwa [Zbm _ _ h0] at this
instance fnOk200 : Zs Tryz.prog 200 := ⟨_, Tryz.func200, rfl, by decide⟩
abbrev rCl (P S W : List Int) : V := .agg [.sl true 1 (Ze P), .sl true 1 (Ze S), .sl true 1 (Ze W)]
abbrev Zfm (P S W : List Int) : D := .pt true [.sl true 1 (Ze P), .sl true 1 (Ze S), .sl true 1 (Ze W)]
structure Pt (P S : List Int) : Prop where
 one : 1 <= P.length
 len : S.length = P.length
 p : ∀ i, -1 <= P.getD i 0 /\ P.getD i 0 < P.length
 s : ∀ i, -1 <= S.getD i 0 /\ S.getD i 0 < P.length
 pp : ∀ i, 1 <= i -> i < P.length -> 0 <= P.getD i 0 /\ P.getD i 0 < i
theorem Pt.first : Pt [-1] [-1] := ⟨by simp, rfl, fun i => by
  rcases i with _ | i
  ·simp
  ·simp, fun i => by
  rcases i with _ | i
  ·simp
  ·simp, fun i h1 h2 => by rw [List.length_singleton] at h2; omega⟩
theorem Pt.add {P S : List Int} (h : Pt P S) {a b : Int} (ha : 0 <= a /\ a < P.length) (hb : -1 <= b /\ b < P.length) : Pt (P ++ [a]) (S ++ [b]) := by
 have h1 := h.one
 have h2 := h.len
 refine ⟨by simp, by simp [h2], fun i => ?_, fun i => ?_, fun i k1 k2 => ?_⟩
 ·have := h.p i
  rw [Jc, List.length_append, List.length_singleton]
  repeat' split
  all_goals omega
 ·have := h.s i
  rw [Jc, List.length_append, List.length_singleton]
  repeat' split
  all_goals omega
 ·rw [List.length_append, List.length_singleton] at k2
  rw [Jc]
  by_cases e : i < P.length
  ·rw [if_pos e]; exact h.pp i k1 e
  ·rw [if_neg e, if_pos j2]; omega
inductive Sec (l : List Int) (s : St) (p : Nat) (P S : List Int) (q : Int) (s' : St) : Prop
 | no {z : Int} (d : Dr1 l s 2 z s') (hz : ¬ z = 0) (hq : q = -1) : Sec l s p P S q s'
 | low {z : Int} (d : Dr1 l s 2 z s') (hz : z = 0) (hS : ¬ 0 <= S.getD (p * 1) 0) (hq : q = P.getD (p * 1) 0) : Sec l s p P S q s'
 | keep {z : Int} {s1 : St} {u : Int} (d : Dr1 l s 2 z s1) (hz : z = 0) (hS : 0 <= S.getD (p * 1) 0) (d2 : Dr1 l s1 2 u s') (hu : ¬ u = 0) (hq : q = P.getD (p * 1) 0) : Sec l s p P S q s'
 | take {z : Int} {s1 : St} {u : Int} (d : Dr1 l s 2 z s1) (hz : z = 0) (hS : 0 <= S.getD (p * 1) 0) (d2 : Dr1 l s1 2 u s') (hu : u = 0) (hq : q = S.getD (p * 1) 0) : Sec l s p P S q s'
theorem Zqc {l : List Int} {s : St} {p : Nat} {P S : List Int} {q : Int} {s' : St} (h : Pt P S) (c : Sec l s p P S q s') : -1 <= q /\ q < P.length := by
 have h1 := h.one
 have hp := h.p (p * 1)
 have hq := h.s (p * 1)
 cases c <;> omega
theorem Xa3 {l : List Int} (hb : By l) {s : St} (hs : OkS l s) (p : Nat) (P S : List Int) : ∃ q s', Sec l s p P S q s' /\ OkS l s' := by
 obtain ⟨z, s1, d⟩ := Xc hb hs 2
 by_cases hz : z = 0
 ·by_cases hS : 0 <= S.getD (p * 1) 0
  ·obtain ⟨u, s2, d2⟩ := Xc hb d.2.1 2
   by_cases hu : u = 0
   ·exact ⟨_, _, .take d hz hS d2 hu rfl, d2.2.1⟩
   ·exact ⟨_, _, .keep d hz hS d2 hu rfl, d2.2.1⟩
  ·exact ⟨_, _, .low d hz hS rfl, d.2.1⟩
 ·exact ⟨_, _, .no d hz rfl, d.2.1⟩
def scF (P S : List Int) (p q : Int) : Nat -> Int
 | 0 => q
 | j + 1 => if 0 <= scF P S p q j /\ P.getD ((j + 1) * 1) 0 = p /\ S.getD ((j + 1) * 1) 0 = scF P S p q j then -1 else scF P S p q j
theorem Zl6 {P S : List Int} {p q : Int} {n : Int} (hn : 1 <= n) (hq : -1 <= q /\ q < n) : ∀ j, -1 <= scF P S p q j /\ scF P S p q j < n
 | 0 => hq
 | j + 1 => by
  have := Zl6 (P := P) (S := S) (p := p) hn hq j
  unfold scF
  split <;> omega
inductive Zqd (l : List Int) : Nat -> List Int -> List Int -> St -> List Int -> List Int -> St -> Prop
 | done {P S s} : Zqd l 0 P S s P S s
 | next {k P S s x s1 y s2 q s3 P' S' s'} (d1 : DrP l s [1, 1, 2, (P.length : Int)] x s1) (hx : 1 <= x) (d2 : Dr1 l s1 (if x < (P.length : Int) then x else P.length) y s2) (h : Sec l s2 ((P.length : Int) - 1 - y).toNat P S q s3)
   (r : Zqd l k (P ++ [(P.length : Int) - 1 - y]) (S ++ [scF P S ((P.length : Int) - 1 - y) q (P.length - 1)]) s3 P' S' s') : Zqd l (k + 1) P S s P' S' s'
theorem Zru {l : List Int} (hb : By l) : ∀ (k : Nat) (P S : List Int) (s : St), Pt P S -> OkS l s -> ∃ P' S' s', Zqd l k P S s P' S' s' /\ Pt P' S' /\ OkS l s' /\ P'.length = P.length + k
 | 0, P, S, s, h, hs => ⟨P, S, s, .done, h, hs, rfl⟩
 | k + 1, P, S, s, h, hs => by
  have h1 := h.one
  obtain ⟨x, s1, d1⟩ := Hu hb hs [1, 1, 2, (P.length : Int)] (by simp)
  have hx : 1 <= x := by
   obtain ⟨i, hi, e⟩ := d1.1
   match i, hi with
   | 0, _ => rw [e]; show (1 : Int) <= 1; omega
   | 1, _ => rw [e]; show (1 : Int) <= 1; omega
   | 2, _ => rw [e]; show (1 : Int) <= 2; omega
   | 3, _ => rw [e]; show (1 : Int) <= (P.length : Int); omega
  obtain ⟨y, s2, d2⟩ := Xc hb d1.2.1 (if x < (P.length : Int) then x else P.length)
  have hy : 0 <= y /\ y < P.length := by
   refine ⟨d2.1.1, ?_⟩
   have := d2.1.2.2
   split at this <;> omega
  obtain ⟨q, s3, hc, hs3⟩ := Xa3 hb d2.2.1 ((P.length : Int) - 1 - y).toNat P S
  have hq := Zqc h hc
  have hsc := Zl6 (P := P) (S := S) (p := (P.length : Int) - 1 - y) (n := P.length) j2 hq (P.length - 1)
  obtain ⟨P', S', s', r, g, o, e⟩ := Zru hb k _ _ s3 (h.add (a := (P.length : Int) - 1 - y) j2 hsc) hs3
  exact ⟨P', S', s', .next d1 hx d2 hc r, g, o, by rw [e]; simp; omega⟩
theorem Zy1 (n : Nat) : List.replicate n (0 : Int) ++ [0] = List.replicate (n + 1) 0 := List.replicate_succ'.symm
theorem Zl7 {id : Nat} {P P' S S' W W' : List Int} (h1 : P = P') (h2 : S = S') (h3 : W = W') : AV.own id (Zfm P S W) = AV.own id (Zfm P' S' W') := by rw [h1, h2, h3]
theorem Zwm {l : List Int} (hb : By l) {s : St} (most : Int) (hm : 1 <= most /\ most <= 100) {n : Int} {s0 : St} (hN0 : Dr1 l s most n s0) {P0 S0 : List Int} {s' : St} (hgo : Zqd l n.toNat [-1] [-1] s0 P0 S0 s') :
  Xn Tryz.prog 200 (dSs l s) [aI most] [rCl P0 S0 (List.replicate P0.length 0)] (dSs l s') := by
 obtain ⟨b0, _, hC0⟩ := hN0
 have hn : 0 <= n /\ n < 100 := by have := b0.2.2 j2; omega
 clear b0
 refine cN_ _ Tryz.func200 rfl Tryz.ntmps200 ?_
 repeat' (first | (refine w2_ ?_ ?_ <;> intro _) | (guard_target =~ AtN 17; refine Za.cons (sI_ (hC0) iA (.sh .nil) (.sh lcA .nil) xR_ xR_ rfl) ?_) | refine ax_ ?_ | (refine neA ?_; first | ((first | refine Zd.ret (.cell inferInstance rfl rfl .nil) rfl ?_ ?_ | refine Zd.normal (.cell inferInstance rfl rfl .nil) rfl ?_ ?_) <;> try exact rfl))|fail)
 all_goals try (exfalso; omega)
 clear hC0
 refine WpA.loop_slots (ι := Nat × List Int × List Int × St × Nat) (fun q => [(0, .own 0 (dSs l q.2.2.2.1)), (4, .own 2 (.pt true [.sl true 1 [], .sl true 1 [], .sl true 1 []])), (5, .own q.2.2.2.2 (Zfm q.2.1 q.2.2.1 (List.replicate q.2.1.length 0))), (6, vG q.1)]) (fun q => Zqd l q.1 q.2.1 q.2.2.1 q.2.2.2.1 P0 S0 s' /\ Pt q.2.1 q.2.2.1 /\ q.2.1.length + q.1 <= 101) (fun q => q.1) (n.toNat, [-1], [-1], s0, _) ⟨hgo, .first, by simp; omega⟩ ⟨rfl, rfl, xR_, Zb u4, trivial⟩ ?_
 clear hgo hn
 rintro ⟨k, P, S, t, i5⟩ st nx ⟨hgo, hg, hl⟩
 simp only at hgo hg hl
 dsimp only
 have h1 := hg.one
 have h2 := hg.len
 cases hgo with
 | done =>
  clear hg
  repeat' (first | (refine w2_ ?_ ?_ <;> intro _) | refine ax_ ?_ | (refine neA ?_; first | ((first | refine Zd.ret (.cell inferInstance rfl rfl .nil) rfl ?_ ?_ | refine Zd.normal (.cell inferInstance rfl rfl .nil) rfl ?_ ?_) <;> try exact rfl))|fail)
  all_goals first | rfl | (exfalso; omega)
 | next d1 hx d2 hsec r =>
  rename_i k x s1 y s2 q s3
  obtain ⟨_, _, hC1⟩ := d1
  obtain ⟨b2, _, hC2⟩ := d2
  have hy : 0 <= y /\ y < P.length := by
   refine ⟨b2.1, ?_⟩
   have := b2.2.2
   split at this <;> omega
  have hq := Zqc hg hsec
  clear b2
  apply Xa2
  ·intro key
   cases hsec with
   | no d3 hz hq =>
     obtain ⟨b3, _, hC3⟩ := d3
     repeat' (first | (refine w2_ ?_ ?_ <;> intro _) | (guard_target =~ AtN 32; refine Za.cons (sI_ (hC1) iA (.mv vA_ .nil) (.mv .nil) xR_ xR_ rfl) ?_) | (guard_target =~ AtN 34; refine Za.cons (sI_ (hC2) iA (.sh .nil) (.sh lcA .nil) xR_ xR_ rfl) ?_) | (guard_target =~ AtN 37; refine Za.cons (sI_ (hC3) iA (.sh .nil) (.sh lcA .nil) xR_ xR_ rfl) ?_) | (guard_target =~ IsN; first | refine Za.cons (Yk rfl rfl rfl) ?_ | refine Za.cons (Xe (.cons (.lit rfl) (.cons (.lit rfl) (.cons (.lit rfl) (.cons (.lit rfl) .nil)))) xR_ (by decide) rfl) ?_) | (guard_target =~ IsG; first | refine psA ?_ | refine Za.doit rfl rfl (Yk rfl rfl rfl) ?_ | refine Za.doit rfl rfl (Xe (.cons (.lit rfl) (.cons (.lit rfl) (.cons (.lit rfl) (.cons (.lit rfl) .nil)))) xR_ (by decide) rfl) ?_) | refine ax_ ?_ | (refine neA ?_; first | ((first | refine Zd.ret (.cell inferInstance rfl rfl .nil) rfl ?_ ?_ | refine Zd.normal (.cell inferInstance rfl rfl .nil) rfl ?_ ?_) <;> try exact rfl))|fail)
     all_goals try (exfalso; omega)
     all_goals refine WpA.forgetG (fun i5 _ _ => [(0, .own 0 (dSs l s3)), (4, .own 2 (.pt true [.sl true 1 [], .sl true 1 [], .sl true 1 []])), (5, .own i5 (Zfm P S (List.replicate P.length 0))), (6, vG ((k : Int) + 1)), (7, vG P.length), (8, vG ((P.length : Int) - 1 - y)), (9, vG q), (10, vG 1)]) _ 0 0 ⟨rfl, rfl, xR_, Zb j2, rfl, rfl, Zb j2, rfl, trivial⟩ ?_
     all_goals exact key.out
   | low d3 hz hS hq =>
     obtain ⟨b3, _, hC3⟩ := d3
     repeat' (first | (refine w2_ ?_ ?_ <;> intro _) | (guard_target =~ AtN 32; refine Za.cons (sI_ (hC1) iA (.mv vA_ .nil) (.mv .nil) xR_ xR_ rfl) ?_) | (guard_target =~ AtN 34; refine Za.cons (sI_ (hC2) iA (.sh .nil) (.sh lcA .nil) xR_ xR_ rfl) ?_) | (guard_target =~ AtN 37; refine Za.cons (sI_ (hC3) iA (.sh .nil) (.sh lcA .nil) xR_ xR_ rfl) ?_) | (guard_target =~ IsN; first | refine Za.cons (Yk rfl rfl rfl) ?_ | refine Za.cons (Xe (.cons (.lit rfl) (.cons (.lit rfl) (.cons (.lit rfl) (.cons (.lit rfl) .nil)))) xR_ (by decide) rfl) ?_) | (guard_target =~ IsG; first | refine psA ?_ | refine Za.doit rfl rfl (Yk rfl rfl rfl) ?_ | refine Za.doit rfl rfl (Xe (.cons (.lit rfl) (.cons (.lit rfl) (.cons (.lit rfl) (.cons (.lit rfl) .nil)))) xR_ (by decide) rfl) ?_) | refine ax_ ?_ | (refine neA ?_; first | ((first | refine Zd.ret (.cell inferInstance rfl rfl .nil) rfl ?_ ?_ | refine Zd.normal (.cell inferInstance rfl rfl .nil) rfl ?_ ?_) <;> try exact rfl))|fail)
     all_goals try (exfalso; omega)
     all_goals refine WpA.forgetG (fun i5 _ _ => [(0, .own 0 (dSs l s3)), (4, .own 2 (.pt true [.sl true 1 [], .sl true 1 [], .sl true 1 []])), (5, .own i5 (Zfm P S (List.replicate P.length 0))), (6, vG ((k : Int) + 1)), (7, vG P.length), (8, vG ((P.length : Int) - 1 - y)), (9, vG q), (10, vG 1)]) _ 0 0 ⟨rfl, rfl, xR_, Zb j2, rfl, rfl, Zb j2, rfl, trivial⟩ ?_
     all_goals exact key.out
   | keep d3 hz hS d4 hu hq =>
     obtain ⟨b3, _, hC3⟩ := d3
     obtain ⟨b4, _, hC4⟩ := d4
     repeat' (first | (refine w2_ ?_ ?_ <;> intro _) | (guard_target =~ AtN 32; refine Za.cons (sI_ (hC1) iA (.mv vA_ .nil) (.mv .nil) xR_ xR_ rfl) ?_) | (guard_target =~ AtN 34; refine Za.cons (sI_ (hC2) iA (.sh .nil) (.sh lcA .nil) xR_ xR_ rfl) ?_) | (guard_target =~ AtN 37; refine Za.cons (sI_ (hC3) iA (.sh .nil) (.sh lcA .nil) xR_ xR_ rfl) ?_) | (guard_target =~ IsN; first | refine Za.cons (Yk rfl rfl rfl) ?_ | refine Za.cons (Xe (.cons (.lit rfl) (.cons (.lit rfl) (.cons (.lit rfl) (.cons (.lit rfl) .nil)))) xR_ (by decide) rfl) ?_) | (guard_target =~ IsG; first | refine psA ?_ | (guard_target =~ AtS 52; refine Za.doit rfl rfl (sI_ (hC4) iA (.sh .nil) (.sh lcA .nil) xR_ xR_ rfl) ?_) | refine Za.doit rfl rfl (Yk rfl rfl rfl) ?_ | refine Za.doit rfl rfl (Xe (.cons (.lit rfl) (.cons (.lit rfl) (.cons (.lit rfl) (.cons (.lit rfl) .nil)))) xR_ (by decide) rfl) ?_) | refine ax_ ?_ | (refine neA ?_; first | ((first | refine Zd.ret (.cell inferInstance rfl rfl .nil) rfl ?_ ?_ | refine Zd.normal (.cell inferInstance rfl rfl .nil) rfl ?_ ?_) <;> try exact rfl))|fail)
     all_goals try (exfalso; omega)
     all_goals refine WpA.forgetG (fun i5 _ _ => [(0, .own 0 (dSs l s3)), (4, .own 2 (.pt true [.sl true 1 [], .sl true 1 [], .sl true 1 []])), (5, .own i5 (Zfm P S (List.replicate P.length 0))), (6, vG ((k : Int) + 1)), (7, vG P.length), (8, vG ((P.length : Int) - 1 - y)), (9, vG q), (10, vG 1)]) _ 0 0 ⟨rfl, rfl, xR_, Zb j2, rfl, rfl, Zb j2, rfl, trivial⟩ ?_
     all_goals exact key.out
   | take d3 hz hS d4 hu hq =>
     obtain ⟨b3, _, hC3⟩ := d3
     obtain ⟨b4, _, hC4⟩ := d4
     repeat' (first | (refine w2_ ?_ ?_ <;> intro _) | (guard_target =~ AtN 32; refine Za.cons (sI_ (hC1) iA (.mv vA_ .nil) (.mv .nil) xR_ xR_ rfl) ?_) | (guard_target =~ AtN 34; refine Za.cons (sI_ (hC2) iA (.sh .nil) (.sh lcA .nil) xR_ xR_ rfl) ?_) | (guard_target =~ AtN 37; refine Za.cons (sI_ (hC3) iA (.sh .nil) (.sh lcA .nil) xR_ xR_ rfl) ?_) | (guard_target =~ IsN; first | refine Za.cons (Yk rfl rfl rfl) ?_ | refine Za.cons (Xe (.cons (.lit rfl) (.cons (.lit rfl) (.cons (.lit rfl) (.cons (.lit rfl) .nil)))) xR_ (by decide) rfl) ?_) | (guard_target =~ IsG; first | refine psA ?_ | (guard_target =~ AtS 52; refine Za.doit rfl rfl (sI_ (hC4) iA (.sh .nil) (.sh lcA .nil) xR_ xR_ rfl) ?_) | refine Za.doit rfl rfl (Yk rfl rfl rfl) ?_ | refine Za.doit rfl rfl (Xe (.cons (.lit rfl) (.cons (.lit rfl) (.cons (.lit rfl) (.cons (.lit rfl) .nil)))) xR_ (by decide) rfl) ?_) | refine ax_ ?_ | (refine neA ?_; first | ((first | refine Zd.ret (.cell inferInstance rfl rfl .nil) rfl ?_ ?_ | refine Zd.normal (.cell inferInstance rfl rfl .nil) rfl ?_ ?_) <;> try exact rfl))|fail)
     all_goals try (exfalso; omega)
     all_goals refine WpA.forgetG (fun i5 _ _ => [(0, .own 0 (dSs l s3)), (4, .own 2 (.pt true [.sl true 1 [], .sl true 1 [], .sl true 1 []])), (5, .own i5 (Zfm P S (List.replicate P.length 0))), (6, vG ((k : Int) + 1)), (7, vG P.length), (8, vG ((P.length : Int) - 1 - y)), (9, vG q), (10, vG 1)]) _ 0 0 ⟨rfl, rfl, xR_, Zb j2, rfl, rfl, Zb j2, rfl, trivial⟩ ?_
     all_goals exact key.out
  intro i5 _ _ st nx
  have hsc := fun j => Zl6 (P := P) (S := S) (p := (P.length : Int) - 1 - y) (n := P.length) j2 hq j
  have hrp := Zy1 P.length
  refine WpA.loop_slots (ι := Nat × Nat) (fun r => [(0, .own 0 (dSs l s3)), (4, .own 2 (.pt true [.sl true 1 [], .sl true 1 [], .sl true 1 []])), (5, .own r.2 (Zfm P S (List.replicate P.length 0))), (6, vG ((k : Int) + 1)), (7, vG P.length), (8, vG ((P.length : Int) - 1 - y)), (9, vG (scF P S ((P.length : Int) - 1 - y) q r.1)), (10, vG ((r.1 : Int) + 1))]) (fun r => r.1 + 1 <= P.length) (fun r => P.length - r.1) (0, i5) p9 ⟨rfl, rfl, rfl, rfl, rfl, rfl, rfl, rfl, trivial⟩ ?_
  rintro ⟨j, i5⟩ st nx hj
  simp only at hj
  dsimp only
  by_cases hlt : j + 1 < P.length
  ·have e : scF P S ((P.length : Int) - 1 - y) q (j + 1) = if 0 <= scF P S ((P.length : Int) - 1 - y) q j /\ P.getD ((j + 1) * 1) 0 = (P.length : Int) - 1 - y /\ S.getD ((j + 1) * 1) 0 = scF P S ((P.length : Int) - 1 - y) q j then -1 else scF P S ((P.length : Int) - 1 - y) q j := rfl
   have hs1 := hsc j
   clear hsc r hg hsec hC1 hC2
   generalize scF P S ((P.length : Int) - 1 - y) q j = sc at *
   by_cases hc : 0 <= sc /\ P.getD ((j + 1) * 1) 0 = (P.length : Int) - 1 - y /\ S.getD ((j + 1) * 1) 0 = sc
   ·rw [if_pos hc] at e
    repeat' (first | (refine w2_ ?_ ?_ <;> intro _) | refine ax_ ?_ | (refine neA ?_; first | ((first | refine Zd.ret (.cell inferInstance rfl rfl .nil) rfl ?_ ?_ | refine Zd.normal (.cell inferInstance rfl rfl .nil) rfl ?_ ?_) <;> try exact rfl))|fail)
    all_goals try (exfalso; omega)
    all_goals exact ⟨(j + 1, _), by simp only; omega, ⟨rfl, rfl, xR_, rfl, rfl, rfl, Zb p9, Zb p9, trivial⟩, by simp only; omega⟩
   ·rw [if_neg hc] at e
    repeat' (first | (refine w2_ ?_ ?_ <;> intro _) | refine ax_ ?_ | (refine neA ?_; first | ((first | refine Zd.ret (.cell inferInstance rfl rfl .nil) rfl ?_ ?_ | refine Zd.normal (.cell inferInstance rfl rfl .nil) rfl ?_ ?_) <;> try exact rfl))|fail)
    all_goals try (exfalso; omega)
    all_goals exact ⟨(j + 1, _), by simp only; omega, ⟨rfl, rfl, xR_, rfl, rfl, rfl, Zb p9, Zb p9, trivial⟩, by simp only; omega⟩
  ·obtain rfl : j = P.length - 1 := by omega
   have hs1 := hsc (P.length - 1)
   have hg2 := hg.add (a := (P.length : Int) - 1 - y) j2 hs1
   clear hsc hg hsec hC1 hC2
   generalize scF P S ((P.length : Int) - 1 - y) q (P.length - 1) = sc at *
   have hq2 : (P ++ [(P.length : Int) - 1 - y]).length = P.length + 1 := by simp
   repeat' (first | (refine w2_ ?_ ?_ <;> intro _) | refine ax_ ?_ | (refine neA ?_; first | ((first | refine Zd.ret (.cell inferInstance rfl rfl .nil) rfl ?_ ?_ | refine Zd.normal (.cell inferInstance rfl rfl .nil) rfl ?_ ?_) <;> try exact rfl))|fail)
   all_goals try (exfalso; omega)
   all_goals exact ⟨(k, P ++ [(P.length : Int) - 1 - y], S ++ [sc], s3, _), ⟨r, hg2, by simp only; omega⟩, ⟨rfl, rfl, by exact Zl7 rfl rfl (by rw [hq2]; exact hrp), Zb p9, trivial⟩, by simp only; omega⟩
instance fnOk201 : Zs Tryz.prog 201 := ⟨_, Tryz.func201, rfl, by decide⟩
abbrev Zy2 (P S W : List Int) : Arg := .sh (.agg [.sl false 1 (Ze P), .sl false 1 (Ze S), .sl false 1 (Ze W)])
def smP (P o : List Int) (j : Nat) : List Int := o.set ((P.getD (j * 1) 0).toNat * 1) (o.getD ((P.getD (j * 1) 0).toNat * 1) 0 + o.getD (j * 1) 0)
def smS (P S o : List Int) (j : Nat) : List Int := if 0 <= S.getD (j * 1) 0 then (smP P o j).set ((S.getD (j * 1) 0).toNat * 1) ((smP P o j).getD ((S.getD (j * 1) 0).toNat * 1) 0 + (smP P o j).getD (j * 1) 0) else smP P o j
def smF (P S : List Int) : Nat -> List Int -> List Int
 | 0, o => o
 | j + 1, o => smF P S j (smS P S o (j + 1))
theorem Zrv (P o : List Int) (j : Nat) : (smP P o j).length = o.length := by simp [smP]
theorem Zrw (P S o : List Int) (j : Nat) : (smS P S o j).length = o.length := by
 unfold smS
 split <;> simp [Zrv]
theorem Zrx (P S : List Int) : ∀ (j : Nat) (o : List Int), (smF P S j o).length = o.length
 | 0, o => rfl
 | j + 1, o => by rw [smF, Zrx P S j, Zrw]
theorem Zil {P o : List Int} {j : Nat} {b : Int} (h : ∀ k, 0 <= o.getD k 0 /\ o.getD k 0 <= b) : ∀ k, 0 <= (smP P o j).getD k 0 /\ (smP P o j).getD k 0 <= 2 * b := fun k => by
 have h1 := h k
 have h2 := h ((P.getD (j * 1) 0).toNat * 1)
 have h3 := h (j * 1)
 unfold smP
 rw [Vm]
 split <;> omega
theorem Zwn {P S o : List Int} {j : Nat} {b : Int} (h : ∀ k, 0 <= o.getD k 0 /\ o.getD k 0 <= b) : ∀ k, 0 <= (smS P S o j).getD k 0 /\ (smS P S o j).getD k 0 <= 4 * b := fun k => by
 have h1 := Zil (P := P) (j := j) h k
 have h2 := Zil (P := P) (j := j) h ((S.getD (j * 1) 0).toNat * 1)
 have h3 := Zil (P := P) (j := j) h (j * 1)
 unfold smS
 split
 ·rw [Vm]
  split <;> omega
 ·omega
theorem Zwo (P S W : List Int) (i : Nat) (hi : i < P.length) (hl : P.length <= 25) (hS : S.length = P.length) (hp : ∀ j, 1 <= j -> j < P.length -> 0 <= P.getD (j * 1) 0 /\ P.getD (j * 1) 0 < P.length) (hs : ∀ j, -1 <= S.getD (j * 1) 0 /\ S.getD (j * 1) 0 < P.length) :
  Zj Tryz.prog 201 [Zy2 P S W, aI i] [rL (smF P S i ((List.replicate P.length 0).set (i * 1) 1))] [] := by
 have h0 : ∀ k, 0 <= ((List.replicate P.length (0 : Int)).set (i * 1) 1).getD k 0 /\ ((List.replicate P.length (0 : Int)).set (i * 1) 1).getD k 0 <= ((4 ^ (i - i) : Nat) : Int) := fun k => by
  rw [Nat.sub_self, Vm]
  split
  ·simp
  ·rw [List.getD_eq_getElem?_getD, List.getElem?_replicate]
   split <;> simp
 generalize hR : smF P S i ((List.replicate P.length 0).set (i * 1) 1) = R
 refine cA_ _ Tryz.func201 rfl Tryz.ntmps201 sO_ ?_
 repeat' (first | (refine w2_ ?_ ?_ <;> intro _) | refine a1_ ?_|fail)
 all_goals try (exfalso; omega)
 refine WpA.loop_slots (ι := Nat × List Int × Nat) (fun q => [(2, .own 2 (.pt true [.sl false 1 (Ze P), .sl false 1 (Ze S), .sl false 1 (Ze W)])), (5, .own q.2.2 (.sl true 1 (Ze q.2.1))), (6, vG q.1)]) (fun q => (smF P S q.1 q.2.1 = R /\ q.2.1.length = P.length) /\ q.1 <= i /\ ∀ k, 0 <= q.2.1.getD k 0 /\ q.2.1.getD k 0 <= ((4 ^ (i - q.1) : Nat) : Int)) (fun q => q.1) (i, (List.replicate P.length 0).set (i * 1) 1, _) ⟨⟨hR, by simp⟩, Nat.le_refl _, h0⟩ ⟨xR_, by exact Zq rfl, rfl, trivial⟩ ?_
 clear h0 hR
 rintro ⟨j, v, i5⟩ st nx ⟨⟨hv, hvl⟩, hji, hB⟩
 simp only at hv hvl hji hB
 dsimp only
 rcases j with _ | j
 ·obtain rfl : v = R := hv
  clear hB hp hs
  repeat' (first | (refine w2_ ?_ ?_ <;> intro _) | refine a1_ ?_|fail)
  all_goals first | rfl | (exfalso; omega)
 ·have hpw : (4 : Nat) ^ (i - j) = 4 * 4 ^ (i - (j + 1)) := by
   rw [show i - j = (i - (j + 1)) + 1 by omega, Nat.pow_succ, Nat.mul_comm]
  have hple : (4 : Nat) ^ (i - (j + 1)) <= 4 ^ 24 := Nat.pow_le_pow_right (by decide) j2
  rw [show (4 : Nat) ^ 24 = 281474976710656 by decide] at hple
  have hn := Zwn (P := P) (S := S) (j := j + 1) hB
  have hn' : ∀ k, 0 <= (smS P S v (j + 1)).getD k 0 /\ (smS P S v (j + 1)).getD k 0 <= ((4 ^ (i - j) : Nat) : Int) := fun k => by
   have := hn k
   rw [hpw]
   omega
  have hsl : (smS P S v (j + 1)).length = P.length := by rw [Zrw, hvl]
  have hpj := hp (j + 1) j2 j2
  have hsj := hs (j + 1)
  have b1 := hB ((P.getD ((j + 1) * 1) 0).toNat * 1)
  have b2 := hB ((j + 1) * 1)
  have c1 := Zil (P := P) (j := j + 1) hB ((S.getD ((j + 1) * 1) 0).toNat * 1)
  have c2 := Zil (P := P) (j := j + 1) hB ((j + 1) * 1)
  have hsm := Zrv P v (j + 1)
  have hv : smF P S j (smS P S v (j + 1)) = R := hv
  clear hB hn hp hs hpw
  generalize (4 : Nat) ^ (i - (j + 1)) = B at *
  by_cases h2 : 0 <= S.getD ((j + 1) * 1) 0
  ·have e : smS P S v (j + 1) = (smP P v (j + 1)).set ((S.getD ((j + 1) * 1) 0).toNat * 1) ((smP P v (j + 1)).getD ((S.getD ((j + 1) * 1) 0).toNat * 1) 0 + (smP P v (j + 1)).getD ((j + 1) * 1) 0) := by unfold smS; rw [if_pos h2]
   rw [e] at hv hn' hsl
   clear e
   unfold smP at *
   repeat' (first | (refine w2_ ?_ ?_ <;> intro _ <;> try (exfalso; omega)) | refine a1_ ?_|fail)
   all_goals try (exfalso; omega)
   all_goals exact ⟨(j, _, _), ⟨⟨hv, hsl⟩, by simp only; omega, hn'⟩, ⟨xR_, xR_, Zb p9, trivial⟩, by simp only; omega⟩
  ·have e : smS P S v (j + 1) = smP P v (j + 1) := by unfold smS; rw [if_neg h2]
   rw [e] at hv hn' hsl
   clear e
   unfold smP at *
   repeat' (first | (refine w2_ ?_ ?_ <;> intro _ <;> try (exfalso; omega)) | refine a1_ ?_|fail)
   all_goals try (exfalso; omega)
   all_goals exact ⟨(j, _, _), ⟨⟨hv, hsl⟩, by simp only; omega, hn'⟩, ⟨xR_, xR_, Zb p9, trivial⟩, by simp only; omega⟩
end Go.Proofs.YtmgmpnhlehonmaaGreat
