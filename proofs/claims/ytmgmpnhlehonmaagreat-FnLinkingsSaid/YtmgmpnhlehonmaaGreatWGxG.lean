/- Contracting vertices, minimal graphs, determinants: what the program hands out. No condition. -/
import Derived.Test.YtmgmpnhlehonmaaGreatWFxA
import Derived.Test.YtmgmpnhlehonmaaGreatWHcA
import Derived.Test.YtmgmpnhlehonmaaGreatWHeA
import Derived.Test.YtmgmpnhlehonmaaGreatWGxC
import Derived.Test.YtmgmpnhlehonmaaGreatWDrC
import Derived.Test.YtmgmpnhlehonmaaGreatWGrB
import Derived.Test.YtmgmpnhlehonmaaGreatWTy
import Derived.Test.YtmgmpnhlehonmaaGreatWGzI
import Derived.Test.YtmgmpnhlehonmaaGreatWPvR
import Derived.Test.YtmgmpnhlehonmaaGreatWSpA
import Derived.Test.YtmgmpnhlehonmaaGreatWGqB
import Derived.Test.YtmgmpnhlehonmaaGreatWGrP
set_option linter.unusedVariables false
set_option linter.unusedSimpArgs false
namespace Go.Proofs.YtmgmpnhlehonmaaGreat
set_option maxRecDepth 100000
set_option maxHeartbeats 20000000
open Go.Pv
open Go.ChangeShapes Go.WideShapes Go.ChangeAt Go.RowKit
attribute [local irreducible] Za WpA Zg Xf Zz Z6 Zd
theorem br23 : Vq [2, 3] := by decide
theorem Vd (P Q : List Int) {i : Nat} (h : i < P.length) : (P ++ Q).getD i 0 = P.getD i 0 := by
 rw [List.getD_eq_getElem?_getD, List.getElem?_append_left h, <- List.getD_eq_getElem?_getD]
theorem Zd9 (P : List Int) (a : Int) : (P ++ [a]).getD P.length 0 = a := by simp
def Zbi (P S : List Int) : Prop := ∀ i, i < P.length -> Vc P S i /\ J4 P S i
theorem Zbi.first : Zbi [-1] [-1] := by
 intro i hi
 simp only [List.length_singleton] at hi
 obtain rfl : i = 0 := by omega
 decide
theorem Zte {P S : List Int} {a b : Int} (hl : S.length = P.length) {i : Nat} (hi : i < P.length) (h : Vc P S i) : Vc (P ++ [a]) (S ++ [b]) i := by
 unfold Vc at h ⊢
 by_cases h0 : i = 0
 ·rw [if_pos h0] at h ⊢
  rwa [Vd P _ j2, Vd S _ j2]
 ·rw [if_neg h0] at h ⊢
  rw [Vd P _ hi, Vd S _ j2]
  obtain ⟨h1, h2⟩ := h
  rw [Vd P _ (i := (P.getD i 0).toNat) j2, Vd S _ (i := (P.getD i 0).toNat) j2]
  exact ⟨h1, h2⟩
theorem Ztf {P S : List Int} {a b : Int} (hl : S.length = P.length) {i : Nat} (hi : i < P.length) (h : J4 P S i) : J4 (P ++ [a]) (S ++ [b]) i := fun j hj => by
 have := h j hj
 rwa [Vd P _ hi, Vd S _ j2, Vd P _ (i := j) j2, Vd S _ (i := j) j2]
theorem Zbi.add {P S : List Int} {a b : Int} (h : Zbi P S) (hl : S.length = P.length) (h1 : 1 <= P.length) (ha : 0 <= a /\ a < P.length) (hb : b = -1 \/ 0 <= b /\ (b = P.getD a.toNat 0 \/ b = S.getD a.toNat 0))
  (hf : 0 <= b -> ∀ j, 1 <= j -> j < P.length -> ¬ (P.getD j 0 = a /\ S.getD j 0 = b)) : Zbi (P ++ [a]) (S ++ [b]) := by
 intro i hi
 rw [List.length_append, List.length_singleton] at hi
 by_cases hlt : i < P.length
 ·exact ⟨Zte hl hlt (h i hlt).1, Ztf hl hlt (h i hlt).2⟩
 ·obtain rfl : i = P.length := by omega
  have eS : (S ++ [b]).getD P.length 0 = b := by rw [<- hl]; exact Zd9 S b
  constructor
  ·unfold Vc
   rw [if_neg j2, Zd9, eS, Vd P _ (i := a.toNat) j2, Vd S _ (i := a.toNat) j2]
   exact ⟨by omega, hb⟩
  ·intro j hj
   rw [Zd9, eS, Vd P _ hj, Vd S _ j2]
   rintro ⟨q1, q2, q3⟩
   by_cases h0 : j = 0
   ·subst h0
    have := (h 0 j2).1
    rw [Vc, if_pos rfl] at this
    omega
   ·exact hf q1 j j2 hj ⟨q3.symm, q2.symm⟩
theorem Zea (P S : List Int) (p q : Int) : ∀ j, scF P S p q j = -1 \/ (scF P S p q j = q /\ (0 <= q -> ∀ m, 1 <= m -> m <= j -> ¬ (P.getD m 0 = p /\ S.getD m 0 = q)))
 | 0 => .inr ⟨rfl, fun _ m h1 h2 => by omega⟩
 | j + 1 => by
  unfold scF
  split
  ·exact .inl rfl
  ·rename_i hn
   rcases Zea P S p q j with h | ⟨h1, h2⟩
   ·exact .inl h
   ·refine .inr ⟨h1, fun hq m k1 k2 => ?_⟩
    by_cases e : m = j + 1
    ·subst e
     rw [h1, Nat.mul_one] at hn
     exact fun q => hn ⟨hq, q⟩
    ·exact h2 hq m k1 j2
theorem Zzb {l : List Int} {s : St} {p : Nat} {P S : List Int} {q : Int} {s' : St} (c : Sec l s p P S q s') : q = -1 \/ q = P.getD p 0 \/ (0 <= q /\ q = S.getD p 0) := by
 cases c with
 | no d hz hq => exact .inl hq
 | low d hz hS hq => rw [Nat.mul_one] at hq; exact .inr (.inl hq)
 | keep d hz hS d2 hu hq => rw [Nat.mul_one] at hq; exact .inr (.inl hq)
 | take d hz hS d2 hu hq => rw [Nat.mul_one] at hq hS; exact .inr (.inr ⟨by omega, hq⟩)
theorem Zon {l : List Int} {k : Nat} {P S : List Int} {s : St} {P' S' : List Int} {s' : St} (r : Zqd l k P S s P' S' s') : Pt P S -> Zbi P S -> Zbi P' S' := by
 induction r with
 | done => exact fun _ h => h
 | next d1 hx d2 hsec r ih =>
  rename_i k P S s x s1 y s2 q s3 P' S' s'
  intro hg h
  have h1 := hg.one
  have hy : 0 <= y /\ y < P.length := by
   refine ⟨d2.1.1, ?_⟩
   have := d2.1.2.2
   split at this <;> omega
  have hq := Zqc hg hsec
  have hsc := Zl6 (P := P) (S := S) (p := (P.length : Int) - 1 - y) (n := P.length) j2 hq (P.length - 1)
  refine ih (hg.add j2 hsc) (h.add hg.len h1 j2 ?_ ?_)
  ·rcases Zea P S ((P.length : Int) - 1 - y) q (P.length - 1) with e | ⟨e, _⟩
   ·exact .inl e
   ·rw [e] at hsc ⊢
    by_cases e1 : q = -1
    ·exact .inl e1
    ·refine .inr ⟨by omega, ?_⟩
     rcases Zzb hsec with h2 | h2 | h2
     ·exact absurd h2 e1
     ·exact .inl h2
     ·exact .inr h2.2
  ·intro hb j k1 k2
   rcases Zea P S ((P.length : Int) - 1 - y) q (P.length - 1) with e | ⟨e, e2⟩
   ·omega
   ·rw [e] at hb ⊢
    exact e2 hb j k1 j2
theorem Xa7 {l : List Int} {n k : Nat} {W : List Int} {s : St} {W' : List Int} {s' : St} (r : W1 l n k W s W' s') : (∀ i, -1 <= W.getD i 0 /\ W.getD i 0 <= 6) -> ∀ i, -1 <= W'.getD i 0 /\ W'.getD i 0 <= 6 := by
 induction r with
 | done => exact fun h => h
 | next d r ih =>
  intro h
  refine ih fun i => ?_
  have := h i
  have b := d.1
  have b2 := b.2.2 j2
  rw [Vm]
  split <;> omega
theorem Xa8 {T : List Int} (h : Vq T) (h1 : T.length = 1) : T.getD (0 * 1) 0 <= 1 := by
 have h2 := h.2.2.2.2.2
 rw [h1] at h2
 have h3 : Z1 T 1 = T.getD 0 0 := Wl (by have := h.2.1; omega)
 rw [h3] at h2
 simp only [Nat.zero_mul]
 omega
theorem Xa9 : ∀ m : Fin 2, ∀ x : Fin 9, Vq [(m.val : Int) + 2, ((m.val : Int) + 2) * (1 + (x.val : Int)) + 1] := by decide +kernel
theorem Zw3 {m x : Int} (hm : m = 2 \/ m = 3) (hx : 0 <= x /\ x < 9) : Vq [m, m * (1 + x) + 1] := by
 have := Xa9 ⟨(m - 2).toNat, by omega⟩ ⟨x.toNat, by omega⟩
 simp only at this
 rwa [show (((m - 2).toNat : Nat) : Int) + 2 = m by omega, show ((x.toNat : Nat) : Int) = x by omega] at this
theorem br_1 : Vq [1] := by decide +kernel
attribute [local irreducible] decStrict decFalls decIsBr decWithin Qm Hs Vq Yz
theorem Zw4 {l : List Int} (hb : By l) {s : St} (hs : OkS l s) : ∃ (T : List Int) (s' : St), Vq T /\ OkS l s' /\
  Xn Tryz.prog 176 (dSs l s) [] [brT T] (dSs l s') := by
 obtain ⟨v, s1, d1⟩ := Hu hb hs [6, 12, 30, 64] (by simp)
 have hv : 1 <= v /\ v <= 64 := by
  obtain ⟨i, hi, e⟩ := d1.1
  match i, hi with
  | 0, _ => simp at e; omega
  | 1, _ => simp at e; omega
  | 2, _ => simp at e; omega
  | 3, _ => simp at e; omega
 obtain ⟨T, s2, hT, hs2, hN2⟩ := Zwk hb d1.2.1 v 400 hv
 obtain ⟨x, s3, d3⟩ := Xc hb hs2 9
 have hN1 := d1.2.2
 have hN3 := d3.2.2
 have hx : 0 <= x /\ x < 9 := ⟨d3.1.1, d3.1.2.2 j2⟩
 have hs3 := d3.2.1
 clear d1 d3
 have plain : T.length <= 100 -> ¬ (T.length = 1 /\ 1 < T.getD (0 * 1) 0) -> Xn Tryz.prog 176 (dSs l s) [] [brT T] (dSs l s2) := by
  intro hTl hno
  clear hN3
  by_cases h1 : T.length = 1
  ·have h2 : ¬ 1 < T.getD (0 * 1) 0 := fun h => hno ⟨h1, h⟩
   refine cN_ _ Tryz.func176 rfl Tryz.ntmps176 ?_
   repeat' (first | (refine w2_ ?_ ?_ <;> intro _) | (guard_target =~ Zh; first | refine Za.cons (sI_ (hN1) iA (.mv vA_ .nil) (.mv .nil) xR_ xR_ rfl) ?_ | refine Za.cons (sV_ (hN2) iA (.sh (.sh .nil)) (.sh lcA (.sh lcA .nil)) xR_ xR_ rfl) ?_) | refine ax_ ?_ | (refine neA ?_; first | ((first | refine Zd.ret (.cell inferInstance rfl rfl .nil) rfl ?_ ?_ | refine Zd.normal (.cell inferInstance rfl rfl .nil) rfl ?_ ?_) <;> try exact rfl))|fail)
   all_goals first | (exfalso; omega) | rfl
  ·refine cN_ _ Tryz.func176 rfl Tryz.ntmps176 ?_
   repeat' (first | (refine w2_ ?_ ?_ <;> intro _) | (guard_target =~ Zh; first | refine Za.cons (sI_ (hN1) iA (.mv vA_ .nil) (.mv .nil) xR_ xR_ rfl) ?_ | refine Za.cons (sV_ (hN2) iA (.sh (.sh .nil)) (.sh lcA (.sh lcA .nil)) xR_ xR_ rfl) ?_) | refine ax_ ?_ | (refine neA ?_; first | ((first | refine Zd.ret (.cell inferInstance rfl rfl .nil) rfl ?_ ?_ | refine Zd.normal (.cell inferInstance rfl rfl .nil) rfl ?_ ?_) <;> try exact rfl))|fail)
   all_goals first | (exfalso; omega) | rfl
 have two : ∀ m, T = [m] -> (m = 2 \/ m = 3) -> Xn Tryz.prog 176 (dSs l s) [] [brT [m, m * (1 + x) + 1]] (dSs l s3) := by
  rintro m rfl hm
  have b : 0 <= m * (1 + x) /\ m * (1 + x) <= 3 * 10 := ⟨Int.mul_nonneg j2 j2, Int.mul_le_mul j2 j2 j2 j2⟩
  have h2 : 1 < ([m] : List Int).getD (0 * 1) 0 := by simp; omega
  refine cN_ _ Tryz.func176 rfl Tryz.ntmps176 ?_
  repeat' (first | (refine w2_ ?_ ?_ <;> intro _) | (guard_target =~ Zh; first | refine Za.cons (sI_ (hN1) iA (.mv vA_ .nil) (.mv .nil) xR_ xR_ rfl) ?_ | refine Za.cons (sV_ (hN2) iA (.sh (.sh .nil)) (.sh lcA (.sh lcA .nil)) xR_ xR_ rfl) ?_ | refine Za.cons (sI_ (hN3) iA (.sh .nil) (.sh lcA .nil) xR_ xR_ rfl) ?_) | refine ax_ ?_ | (refine neA ?_; first | ((first | refine Zd.ret (.cell inferInstance rfl rfl .nil) rfl ?_ ?_ | refine Zd.normal (.cell inferInstance rfl rfl .nil) rfl ?_ ?_) <;> try exact rfl))|fail)
  all_goals first | (exfalso; omega) | rfl
 rcases hT with h | rfl | rfl | rfl
 ·exact ⟨T, s2, h, hs2, plain (Zl0 h).len.2 (fun q => by have := Xa8 h q.1; omega)⟩
 ·exact ⟨[1], s2, br_1, hs2, plain (by simp) (by simp)⟩
 ·exact ⟨_, s3, Zw3 (.inl rfl) hx, hs3, two 2 rfl (.inl rfl)⟩
 ·exact ⟨_, s3, Zw3 (.inr rfl) hx, hs3, two 3 rfl (.inr rfl)⟩
end Go.Proofs.YtmgmpnhlehonmaaGreat
namespace Go.Proofs.YtmgmpnhlehonmaaGreat
set_option maxHeartbeats 20000000
open Go.Pv
open Go.ChangeShapes Go.WideShapes Go.ChangeAt Go.RowKit
attribute [local irreducible] Za WpA Zg Xf Zz Z6 Zd
instance fnOk148 : Zs Tryz.prog 148 := ⟨_, Tryz.func148, rfl, by decide⟩
theorem Zr5 (m : List Int) (j : Nat) : ∀ n, 0 <= Zai m j n /\ Zai m j n <= j
 | 0 => by simp [Zai]
 | n + 1 => by
  have := Zr5 m j n
  rw [Zai]
  split
  ·rename_i h; have := h.1; omega
  ·exact this
theorem Xba {m : List Int} (h : m.length <= 1000) (i : Nat) : -1000000 <= (cdL m).getD i 0 /\ (cdL m).getD i 0 <= 1000000 := by
 rw [List.getD_eq_getElem?_getD]
 by_cases hi : i < m.length - 1
 ·have := Zr5 m (i + 1) (i + 1)
  simp only [cdL, List.getElem?_map, List.getElem?_range hi, Option.map_some, Option.getD_some]
  omega
 ·rw [List.getElem?_eq_none (by rw [Zr1]; omega)]
  simp
theorem Zqe (T : List Int) (h : Vq T) (n : Nat) (hn : n <= 24) : ∃ A B C : List Int, A.length = n + 1 /\ B.length = n + 1 /\ C.length = n + 1 /\ Zj Tryz.prog 175 [Zs3 T, aI (1 + (n : Int))] [rCl A B C] [] := by
 have h1 := Zkr T h (n + 1) j2
 have h2 := Q3 T h (n + 1) j2
 have h3 := Zkn T (cdL (Km T (n + 1))) (Km T (n + 1)) (n + 1) j2 (by rw [Zr1, Zcv]) (Xba (by rw [Zcv]; omega)) h1 h2
 rw [show ((n + 1 : Nat) : Int) = 1 + (n : Int) by omega] at h3
 exact ⟨_, _, _, Zim _, Zol _ _, Zcv _ _, h3⟩
attribute [local irreducible] J5 decIsCl decIsBr Vq
theorem J5.len {P S W : List Int} (h : J5 P S W) : (1 <= P.length /\ P.length <= 24) /\ S.length = P.length /\ W.length = P.length := by
 have := h.cl
 exact ⟨this.len, this.lS, this.lW⟩
end Go.Proofs.YtmgmpnhlehonmaaGreat
namespace Go.Proofs.YtmgmpnhlehonmaaGreat
set_option maxRecDepth 100000
set_option maxHeartbeats 20000000
open Go.Pv
open Go.ChangeShapes Go.WideShapes Go.ChangeAt Go.RowKit
attribute [local irreducible] Za WpA Zg Xf Zz Z6 Zd
instance fnOk120 : Zs Tryz.prog 120 := ⟨_, Tryz.func120, rfl, by decide⟩
instance fnOk59 : Zs Tryz.prog 59 := ⟨_, Tryz.func59, rfl, by decide⟩
structure Prm (O : List Int) : Prop where
 nd : O.Nodup
 rng : ∀ x ∈ O, 0 <= x /\ x < O.length
theorem Prm.nil : Prm [] := ⟨List.nodup_nil, by simp⟩
theorem Prm.ins {O : List Int} (h : Prm O) (a : Nat) : Prm (O.take a ++ (O.length : Int) :: O.drop a) := by
 have hp : (O.take a ++ (O.length : Int) :: O.drop a).Perm ((O.length : Int) :: O) := by
  refine List.perm_middle.trans ?_
  rw [List.take_append_drop]
 refine ⟨hp.nodup_iff.2 (List.nodup_cons.2 ⟨fun q => by have := h.rng _ q; omega, h.nd⟩), fun x hx => ?_⟩
 rw [hp.length_eq, List.length_cons]
 rcases List.mem_cons.1 (hp.mem_iff.1 hx) with q | q
 ·omega
 ·have := h.rng x q; omega
theorem Zr6 (O : List Int) (a : Nat) (x : Int) : (O.take a ++ x :: O.drop a).length = O.length + 1 := by
 simp
 omega
theorem Prm.at {O : List Int} (h : Prm O) {i : Nat} (hi : i < O.length) : 0 <= O.getD i 0 /\ O.getD i 0 < O.length := h.rng _ (Z4 hi)
inductive Ztg (l : List Int) : Nat -> List Int -> St -> List Int -> St -> Prop
 | done {O s} : Ztg l 0 O s O s
 | next {k O s a s1 O' s'} (d : Dr1 l s ((O.length : Int) + 1) a s1) (r : Ztg l k (O.take a.toNat ++ (O.length : Int) :: O.drop a.toNat) s1 O' s') : Ztg l (k + 1) O s O' s'
theorem Zr7 {l : List Int} (hb : By l) : ∀ (k : Nat) (O : List Int) (s : St), Prm O -> OkS l s -> ∃ O' s', Ztg l k O s O' s' /\ Prm O' /\ OkS l s' /\ O'.length = O.length + k
 | 0, O, s, h, hs => ⟨O, s, .done, h, hs, rfl⟩
 | k + 1, O, s, h, hs => by
  obtain ⟨a, s1, d⟩ := Xc hb hs ((O.length : Int) + 1)
  obtain ⟨O', s', r, g, o, e⟩ := Zr7 hb k _ s1 (h.ins a.toNat) d.2.1
  exact ⟨O', s', .next d r, g, o, by rw [e, Zr6]; omega⟩
def pwF (O w : List Int) : Nat -> List Int
 | 0 => List.replicate w.length 0
 | j + 1 => (pwF O w j).set ((O.getD (j * 1) 0).toNat * 1) (w.getD (j * 1) 0)
theorem Zmb (O w : List Int) : ∀ j, (pwF O w j).length = w.length
 | 0 => by simp [pwF]
 | j + 1 => by rw [pwF, List.length_set, Zmb O w j]
theorem Zw5 {O w : List Int} {b : Int} (hb : 0 <= b) (h : ∀ i, -b <= w.getD i 0 /\ w.getD i 0 <= b) : ∀ j i, -b <= (pwF O w j).getD i 0 /\ (pwF O w j).getD i 0 <= b
 | 0, i => by
  rw [pwF, List.getD_eq_getElem?_getD, List.getElem?_replicate]
  split <;> simp <;> omega
 | j + 1, i => by
  have h1 := Zw5 (O := O) hb h j i
  have h2 := h (j * 1)
  rw [pwF, Vm]
  split <;> omega
def peR (O e : List Int) : List Int := [if O.getD ((e.getD (1 * 1) 0).toNat * 1) 0 < O.getD ((e.getD (0 * 1) 0).toNat * 1) 0 then O.getD ((e.getD (1 * 1) 0).toNat * 1) 0 else O.getD ((e.getD (0 * 1) 0).toNat * 1) 0, max (O.getD ((e.getD (0 * 1) 0).toNat * 1) 0) (O.getD ((e.getD (1 * 1) 0).toNat * 1) 0)]
def peF (O : List Int) (E : List (List Int)) : Nat -> List (List Int)
 | 0 => []
 | j + 1 => peF O E j ++ [peR O (E.getD (j * 1) [])]
theorem Zgc (O : List Int) (E : List (List Int)) : ∀ j, (peF O E j).length = j
 | 0 => rfl
 | j + 1 => by rw [peF, List.length_append, Zgc O E j]; rfl
theorem Zmc (O : List Int) (E : List (List Int)) : ∀ j, ∀ r ∈ peF O E j, r.length = 2
 | 0, r, h => by simp [peF] at h
 | j + 1, r, h => by
  rw [peF] at h
  rcases List.mem_append.1 h with h | h
  ·exact Zmc O E j r h
  ·rw [List.mem_singleton] at h
   rw [h]; rfl
theorem Zw6 {E : List (List Int)} (h : ∀ r ∈ E, r.length = 2) : ∀ r ∈ Zaf E E.length, r.length = 2 := fun r hr => h r ((Jp E).mem_iff.1 hr)
theorem Zth {l : List Int} {s : St} {z : Int} {s1 : St} (h1 : Dr1 l s 4 z s1) (hz : ¬ z = 0) {P S W : List Int} {s2 : St} (hD : Xn Tryz.prog 148 (dSs l s1) [aI 14] [rCl P S W] (dSs l s2))
  {w : List Int} {E : List (List Int)} (hG : Zj Tryz.prog 101 [Zy2 P S W] [rGr w E] []) (hw : w.length <= 24) (hE : E.length <= 600)
  (hr : ∀ j, j < E.length -> (E.getD (j * 1) []).length = 2 /\ (0 <= (E.getD (j * 1) []).getD (0 * 1) 0 /\ (E.getD (j * 1) []).getD (0 * 1) 0 < w.length) /\ (0 <= (E.getD (j * 1) []).getD (1 * 1) 0 /\ (E.getD (j * 1) []).getD (1 * 1) 0 < w.length))
  {O : List Int} {s' : St} (hgo : Ztg l w.length [] s2 O s') (hO : Prm O) (hOl : O.length = w.length) :
  Xn Tryz.prog 120 (dSs l s) [] [rGr (pwF O w w.length) (Zaf (peF O E E.length) (peF O E E.length).length)] (dSs l s') := by
 obtain ⟨_, _, hC1⟩ := h1
 have hSo := Hq (peF O E E.length) (by rw [Zgc]; omega) (fun r h => by rw [Zmc _ _ _ r h]; omega)
 generalize Zaf (peF O E E.length) (peF O E E.length).length = F at *
 refine cN_ _ Tryz.func120 rfl Tryz.ntmps120 ?_
 repeat' (first | (refine w2_ ?_ ?_ <;> intro _) | (guard_target =~ AtN 15; refine Za.cons (sI_ (hC1) iA (.sh .nil) (.sh lcA .nil) xR_ xR_ rfl) ?_) | (guard_target =~ AtN 20; refine Za.cons (sV_ (hD) iA (.sh .nil) (.sh lcA .nil) xR_ xR_ rfl) ?_) | (guard_target =~ AtN 21; refine Za.cons (sC_ (hG) (.sh .nil) (.shAgg rfl gA_ .nil) rfl) ?_) | refine ax_ ?_ | (refine neA ?_; first | ((first | refine Zd.ret (.cell inferInstance rfl rfl .nil) rfl ?_ ?_ | refine Zd.normal (.cell inferInstance rfl rfl .nil) rfl ?_ ?_) <;> try exact rfl))|fail)
 all_goals try (exfalso; omega)
 clear hC1 hD hG
 refine WpA.loop_slots (ι := Nat × List Int × St × Nat × Nat) (fun q => [(0, .own 0 (dSs l q.2.2.1)), (2, .own 1 (.pt true [.sl true 1 [], .sl true 1 []])), (3, .own q.2.2.2.1 (dG2 w E)), (4, vG w.length), (5, .own q.2.2.2.2 (.sl true 1 (Ze q.2.1))), (6, vG q.2.1.length)]) (fun q => Ztg l q.1 q.2.1 q.2.2.1 O s' /\ q.2.1.length + q.1 = w.length) (fun q => q.1) (w.length, [], s2, _, _) ⟨hgo, by simp⟩ ⟨rfl, rfl, xR_, rfl, xR_, rfl, trivial⟩ ?_
 clear hgo
 rintro ⟨k, Q, t, i3, i5⟩ st nx ⟨hgo, hl⟩
 simp only at hgo hl
 dsimp only
 cases hgo with
 | next d r =>
  rename_i k a t1
  obtain ⟨b1, _, hC⟩ := d
  have ha : 0 <= a /\ a <= Q.length := ⟨b1.1, by have := b1.2.2 j2; omega⟩
  have hil := Zr6 Q a.toNat (Q.length : Int)
  clear hSo hr hO b1
  repeat' (first | (refine w2_ ?_ ?_ <;> intro _) | (guard_target =~ AtN 34; refine Za.cons (sI_ (hC) iA (.sh .nil) (.sh lcA .nil) xR_ xR_ rfl) ?_) | refine ax_ ?_ | (refine neA ?_; first | ((first | refine Zd.ret (.cell inferInstance rfl rfl .nil) rfl ?_ ?_ | refine Zd.normal (.cell inferInstance rfl rfl .nil) rfl ?_ ?_) <;> try exact rfl))|fail)
  all_goals try (exfalso; omega)
  all_goals exact ⟨(k, Q.take a.toNat ++ (Q.length : Int) :: Q.drop a.toNat, t1, _, _), ⟨r, by simp only; omega⟩, ⟨rfl, rfl, xR_, rfl, by exact Zq (by simp; exact List.take_of_length_le (by simp)), Zb p9, trivial⟩, by simp only; omega⟩
 | done =>
  repeat' (first | (refine w2_ ?_ ?_ <;> intro _) | refine ax_ ?_ | (refine neA ?_; first | ((first | refine Zd.ret (.cell inferInstance rfl rfl .nil) rfl ?_ ?_ | refine Zd.normal (.cell inferInstance rfl rfl .nil) rfl ?_ ?_) <;> try exact rfl))|fail)
  all_goals try (exfalso; omega)
  refine WpA.loop_slots (ι := Nat × Nat × Nat × Nat) (fun q => [(0, .own 0 (dSs l s')), (2, .own 1 (.pt true [.sl true 1 [], .sl true 1 []])), (3, .own q.2.1 (dG2 w E)), (4, vG w.length), (5, .own q.2.2.1 (.sl true 1 (Ze O))), (9, .own q.2.2.2 (dG2 (pwF O w q.1) [])), (10, vG q.1)]) (fun q => q.1 <= w.length) (fun q => w.length - q.1) (0, _, _, _) (by simp) ⟨rfl, rfl, xR_, rfl, xR_, xR_, rfl, trivial⟩ ?_
  rintro ⟨j, i3, i5, i9⟩ st nx hj
  simp only at hj
  dsimp only
  have hpl := Zmb O w j
  by_cases hlt : j < w.length
  ·have hat := hO.at (i := j * 1) j2
   have hst : pwF O w (j + 1) = (pwF O w j).set ((O.getD (j * 1) 0).toNat * 1) (w.getD (j * 1) 0) := rfl
   clear hSo hr hO
   generalize pwF O w j = X at *
   repeat' (first | (refine w2_ ?_ ?_ <;> intro _) | refine ax_ ?_ | (refine neA ?_; first | ((first | refine Zd.ret (.cell inferInstance rfl rfl .nil) rfl ?_ ?_ | refine Zd.normal (.cell inferInstance rfl rfl .nil) rfl ?_ ?_) <;> try exact rfl))|fail)
   all_goals try (exfalso; omega)
   all_goals exact ⟨(j + 1, _, _, _), by simp only; omega, ⟨rfl, rfl, xR_, rfl, xR_, by exact H8 hst.symm rfl, Zb p9, trivial⟩, by simp only; omega⟩
  ·obtain rfl : j = w.length := by omega
   generalize pwF O w w.length = X at *
   repeat' (first | (refine w2_ ?_ ?_ <;> intro _) | refine ax_ ?_ | (refine neA ?_; first | ((first | refine Zd.ret (.cell inferInstance rfl rfl .nil) rfl ?_ ?_ | refine Zd.normal (.cell inferInstance rfl rfl .nil) rfl ?_ ?_) <;> try exact rfl))|fail)
   all_goals try (exfalso; omega)
   refine WpA.loop_slots (ι := Nat × Nat × Nat × Nat) (fun q => [(0, .own 0 (dSs l s')), (2, .own 1 (.pt true [.sl true 1 [], .sl true 1 []])), (3, .own q.2.1 (dG2 w E)), (5, .own q.2.2.1 (.sl true 1 (Ze O))), (9, .own q.2.2.2 (dG2 X (peF O E q.1))), (11, vG q.1)]) (fun q => q.1 <= E.length) (fun q => E.length - q.1) (0, _, _, _) (by simp) ⟨rfl, rfl, xR_, xR_, xR_, rfl, trivial⟩ ?_
   rintro ⟨e, i3, i5, i9⟩ st nx he
   simp only at he
   dsimp only
   have hel := Zgc O E e
   by_cases hle : e < E.length
   ·obtain ⟨r1, r2, r3⟩ := hr e hle
    have hst : peF O E (e + 1) = peF O E e ++ [[if O.getD (((E.getD (e * 1) []).getD (1 * 1) 0).toNat * 1) 0 < O.getD (((E.getD (e * 1) []).getD (0 * 1) 0).toNat * 1) 0 then O.getD (((E.getD (e * 1) []).getD (1 * 1) 0).toNat * 1) 0 else O.getD (((E.getD (e * 1) []).getD (0 * 1) 0).toNat * 1) 0, max (O.getD (((E.getD (e * 1) []).getD (0 * 1) 0).toNat * 1) 0) (O.getD (((E.getD (e * 1) []).getD (1 * 1) 0).toNat * 1) 0)]] := rfl
    clear hSo hr hO
    generalize peF O E e = Y at *
    repeat' (first | (refine w2_ ?_ ?_ <;> intro _) | (guard_target =~ IsN; first | refine Za.cons (Yk rfl rfl rfl) ?_ | refine Za.cons (Zm7 rfl rfl rfl) ?_) | refine ax_ ?_ | (refine neA ?_; first | ((first | refine Zd.ret (.cell inferInstance rfl rfl .nil) rfl ?_ ?_ | refine Zd.normal (.cell inferInstance rfl rfl .nil) rfl ?_ ?_) <;> try exact rfl))|fail)
    all_goals try (exfalso; omega)
    all_goals exact ⟨(e + 1, _, _, _), by simp only; omega, ⟨rfl, rfl, xR_, xR_, by exact H8 rfl hst.symm, Zb p9, trivial⟩, by simp only; omega⟩
   ·obtain rfl : e = E.length := by omega
    clear hr hO
    generalize peF O E E.length = Y at *
    repeat' (first | (refine w2_ ?_ ?_ <;> intro _) | refine kM_ hSo ?_ | refine ax_ ?_ | (refine neA ?_; first | ((first | refine Zd.ret (.cell inferInstance rfl rfl .nil) rfl ?_ ?_ | refine Zd.normal (.cell inferInstance rfl rfl .nil) rfl ?_ ?_) <;> try exact rfl))|fail)
    all_goals first | rfl | (exfalso; omega)
attribute [local irreducible] Zp decIsGr
end Go.Proofs.YtmgmpnhlehonmaaGreat
namespace Go.Proofs.YtmgmpnhlehonmaaGreat
set_option maxHeartbeats 20000000
open Go.Pv
open Go.ChangeShapes Go.WideShapes Go.ChangeAt Go.RowKit
attribute [local irreducible] Za WpA Zg Xf Zz Z6 Zd
instance fnOk32 : Zs Tryz.prog 32 := ⟨_, Tryz.func32, rfl, by decide⟩
theorem Zoo {w : List Int} {E : List (List Int)} (h : Zp w E) : Z0 w.length E := h.2.2.1
attribute [local irreducible] Zp decIsGr
end Go.Proofs.YtmgmpnhlehonmaaGreat
namespace Go.Proofs.YtmgmpnhlehonmaaGreat
set_option maxRecDepth 100000
set_option maxHeartbeats 20000000
open Go.Pv
open Go.ChangeShapes Go.WideShapes Go.ChangeAt Go.RowKit
attribute [local irreducible] Za WpA Zg Xf Zz Z6 Zd
theorem Zgd {f : Int -> Int × Bool} {u : Int} : ∀ (l : List Int) (n : Int), (prd f u l n).2 = true -> (prd f u l n).1 = n * Y5 (fun x => (f x).1) (l.filter fun b => decide (b ≠ u)) /\ ∀ x ∈ l, x ≠ u -> (f x).2 = true
 | [], n, _ => by simp [prd, Y5]
 | x :: l, n, h => by
  rw [prd] at h ⊢
  rw [List.filter_cons]
  by_cases hx : x = u
  ·rw [if_pos hx] at h ⊢
   rw [if_neg (show ¬ decide (x ≠ u) = true from fun q => of_decide_eq_true q hx)]
   obtain ⟨i1, i2⟩ := Zgd l n h
   refine ⟨i1, fun y hy hne => ?_⟩
   rcases List.mem_cons.1 hy with e | e
   ·exact absurd (e.trans hx) hne
   ·exact i2 y e hne
  ·rw [if_neg hx] at h ⊢
   rw [if_pos (show decide (x ≠ u) = true from decide_eq_true hx)]
   split at h
   ·rename_i h1
    rw [if_pos h1]
    split at h
    ·rename_i h2
     obtain ⟨i1, i2⟩ := Zgd l _ h
     rw [if_pos h2, i1, Up h2, Y5, Int.mul_assoc]
     refine ⟨rfl, fun y hy hne => ?_⟩
     rcases List.mem_cons.1 hy with e | e
     ·rw [e]; exact h1
     ·exact i2 y e hne
    ·simp at h
   ·simp at h
theorem Zop {n : Nat} {E : List (List Int)} (hg : Z0 n E) {v u : Int} (hne : ∀ x y : Int, Adj E x y -> x ≠ y) : ∀ P : List Int, (∀ x, x ∈ P ↔ x = v \/ x = u) -> (Zf E v).filter (fun b => decide (b ∉ P)) = (Zf E v).filter fun b => decide (b ≠ u) := fun P hP => List.filter_congr fun b hb => decide_eq_decide.2 (by
 rw [hP, not_or]
 exact ⟨fun q => q.2, fun q => ⟨fun e => hne v b ((Xm hg).1 hb) e.symm, q⟩⟩)
theorem Xbb {w : List Int} {E : List (List Int)} {v u : Int} (h : (edR w E v u).2 = 0) : Zp w E /\ (edR w E v u).1 = Dm (awt w) E (X5 w.length) := by
 unfold edR at h ⊢
 split at h
 ·rename_i hc
  rw [if_pos hc]
  obtain ⟨hg, hall, he⟩ := Ye hc
  obtain ⟨hv, hu⟩ := Hl hall
  refine ⟨hg, ?_⟩
  split at h
  ·rename_i hm
   rw [if_pos hm]
   unfold edV at h ⊢
   split at h
   ·rename_i hb
    rw [if_pos hb]
    simp only [Bool.and_eq_true] at hb
    obtain ⟨⟨⟨⟨⟨⟨b1, b2⟩, b3⟩, b4⟩, b5⟩, b6⟩, _⟩ := hb
    have hgd := hg.2.2.1
    have hadj := (Xm hgd).1 hm
    obtain ⟨p1, p2⟩ := Zgd _ _ b3
    obtain ⟨q1, q2⟩ := Zgd _ _ b4
    have hne : ∀ x y : Int, Adj E x y -> x ≠ y := fun x y ha e => by
     subst e
     have := hg.forest _ (show NB E [x, x] from ha)
     simp at this
    have hW : ∀ a c s, a ∈ [v, u] -> NB E (c :: a :: s) -> c ∉ [v, u] -> spW w E a c = Dm (awt w) E (Xb w.length E c (a :: s)) := fun a c s ha hN hcm => by
     simp only [List.mem_cons, List.not_mem_nil, or_false, not_or] at ha hcm
     rcases ha with rfl | rfl
     ·exact Zia hg he hN hv (p2 c ((Xm hgd).2 hN.adj.symm) hcm.2)
     ·exact Zia hg he hN hu (q2 c ((Xm hgd).2 hN.adj.symm) hcm.1)
    have hl := Zid hg he (W := spW w E) [v, u] hW 1 [v] u [] rfl rfl (show NB E [v, u] from hadj) hu
    have hset : Dm (awt w) E (ofP w.length [v, u]) = Dm (awt w) E ((Xb w.length E u []).filter fun x => decide (x ∉ [v] ++ [u])) := by
     refine Yw _ _ (V4 _ _) ((Xi _ _ _ _).filter _) fun x => ?_
     rw [Yv, List.mem_filter, decide_eq_true_eq, Xo hgd hu]
     exact ⟨fun h => ⟨W8 hg he h.1 hu, h.2⟩, fun h => ⟨by obtain ⟨⟨u, h⟩, _⟩ := h; exact h.range hgd hu, h.2⟩⟩
    have hq : qqL (spW w E) E [v, u] ([v] ++ [u]) = Y5 (spW w E v) ((Zf E v).filter fun b => decide (b ≠ u)) * Y5 (spW w E u) ((Zf E u).filter fun b => decide (b ≠ v)) := by
     show Y5 (spW w E v) ((Zf E v).filter fun b => decide (b ∉ [v, u])) * (Y5 (spW w E u) ((Zf E u).filter fun b => decide (b ∉ [v, u])) * 1) = _
     rw [Int.mul_one, Zop (v := v) (u := u) hgd hne [v, u] (fun x => by simp), Zop (v := u) (u := v) hgd hne [v, u] (fun x => by simp [or_comm])]
    rw [Up b5, Up b6, p1, q1, Int.one_mul, Int.one_mul, Xaw hg he hv hm, hset, hl, hq, Zia hg he (s := []) (show NB E [u, v] from hadj.symm) hv b1, Zia hg he (s := []) (show NB E [v, u] from hadj) hu b2]
   ·simp at h
  ·simp at h
 ·rename_i hc; exact absurd h hc
theorem Zmd {n i k : Nat} (f : Nat -> Nat -> Int) (hi : i < n) (hk : k < n) : ((Jw n f).getD i []).getD k 0 = f i k := by
 rw [Zhs f hi]
 simp [List.getD_eq_getElem?_getD, hk]
theorem Zzc (l : List Int) : (l.map fun x => [D.lit (.int .u8 x)]).flatten = bytes l := by
 induction l with
 | nil => rfl
 | cons a l ih => rw [List.map_cons, List.flatten_cons, ih]; rfl
theorem Zzd {P : Program} {t e : TypeId} {ts zs} (hu : P.underlying t = some (.slice e)) (he : P.underlying e = some (.int .u8)) (hc : P.cellsOf e = 1) (h : Zbu P (t :: ts) zs) :
  ∃ (l : List Int) (zs' : List Arg), zs = aBy l :: zs' /\ By l /\ Zbu P ts zs' := by
 obtain ⟨d, zs', rfl, h1, h2⟩ := Zt6 (fun fs => by rw [hu]; simp) h
 obtain ⟨parts, ee, h3, h4⟩ := Zt4 hu h1
 cases ee
 obtain ⟨l, rfl, hl⟩ := Zxk (fun x : Int => [D.lit (.int .u8 x)]) (fun x => 0 <= x /\ x <= 255) h3 (fun p hp => by
  obtain ⟨n, e, hn⟩ := Zz5 he hp
  exact ⟨n, e, by simpa [Go.Lit.wf, IntKind.min, IntKind.max, IntKind.signed, IntKind.bits] using hn⟩)
 rw [hc, Zzc]
 have h4 : l.length <= maxLen := by simpa using h4
 refine ⟨l, zs', rfl, ⟨by unfold maxLen at h4; omega, fun i => ?_⟩, h2⟩
 by_cases hi : i < l.length
 ·exact hl _ (by rw [List.getD_eq_getElem?_getD, List.getElem?_eq_getElem hi]; exact List.getElem_mem hi)
 ·rw [List.getD_eq_getElem?_getD, List.getElem?_eq_none j2]; simp
instance fnOk28 : Zs Tryz.prog 28 := ⟨_, Tryz.func28, rfl, by decide⟩
instance fnOk11 : Zs Tryz.prog 11 := ⟨_, Tryz.func11, rfl, by decide⟩
instance fnOk7 : Zs Tryz.prog 7 := ⟨_, Tryz.func7, rfl, by decide⟩
theorem WpA.cutY {P : Program} {n : NN} {st : Nat -> AV} {nx : Nat} {c : Code} {Q : Exit -> (Nat -> AV) -> Nat -> Prop} (t : Nat) (slots : List (Nat × AV)) (ht : Zqa c = some t) (h0 : Has st slots) (h : ∀ s k, WpA P n c (Zn s slots) k Q) : WpA P n c st nx Q := by
 have := h st nx
 rwa [Zbm _ _ h0] at this
theorem Zze (l : List Int) (hl : l.length <= 1000000) : Zj Tryz.prog 28 [aL l, aL l] [rB true] [] := by
 refine cA_ _ Tryz.func28 rfl Tryz.ntmps28 sO_ ?_
 repeat' (first | (refine w2_ ?_ ?_ <;> intro _) | refine a1_ ?_|fail)
 all_goals try (exfalso; simp_all; done)
 refine WpA.loop_slots (ι := Nat) (fun j => [(0, .c (.sl false 1 (Ze l))), (1, .c (.sl false 1 (Ze l))), (5, .c (.lit (.int .i64 j)))]) (fun j => j <= l.length) (fun j => l.length - j) 0 j2 ⟨rfl, rfl, rfl, trivial⟩ ?_
 intro j s nx hj
 by_cases hlt : j < l.length
 ·repeat' (first | (refine w2_ ?_ ?_ <;> intro _) | refine a1_ ?_|fail)
  all_goals try (exfalso; simp_all; done)
  all_goals try (exfalso; omega)
  all_goals exact ⟨j + 1, by omega, ⟨rfl, rfl, Zb j2, trivial⟩, by omega⟩
 ·repeat' (first | (refine w2_ ?_ ?_ <;> intro _) | refine a1_ ?_|fail)
  all_goals first | rfl | (exfalso; omega)
theorem Xbc (l : List Int) (hl : l.length <= 9223372036854775807) : Zj Tryz.prog 7 [aBy l] [rB (decide (4096 < l.length))] [] := by
 have e : decide (4096 < l.length) = decide ((l.length : Int) > 4096) := decide_eq_decide.2 j2
 rw [e]
 refine cA_ _ Tryz.func7 rfl Tryz.ntmps7 sO_ ?_
 repeat' (first | (refine w2_ ?_ ?_ <;> intro _) | refine a1_ ?_|fail)
 all_goals rfl
theorem Zw7 (A : List (List Int)) (hA : A.length <= 1000000) (ha : ∀ i, (A.getD i []).length <= 1000) : Zj Tryz.prog 11 [aLL A, aLL A] [rB true] [] := by
 refine cA_ _ Tryz.func11 rfl Tryz.ntmps11 sO_ ?_
 repeat' (first | (refine w2_ ?_ ?_ <;> intro _) | refine a1_ ?_|fail)
 all_goals try (exfalso; simp_all; done)
 refine WpA.loop_slots (ι := Nat) (fun j => [(0, .c (.sl false 1 (LLs A))), (1, .c (.sl false 1 (LLs A))), (5, .c (.lit (.int .i64 j)))]) (fun j => j <= A.length) (fun j => A.length - j) 0 j2 ⟨rfl, rfl, rfl, trivial⟩ ?_
 intro j s nx hj
 by_cases hlt : j < A.length
 ·have h := Zze (A.getD (j * 1) []) (by have := ha (j * 1); omega)
  clear ha
  repeat' (first | (refine w2_ ?_ ?_ <;> intro _) | refine kM_ h ?_ | refine a1_ ?_|fail)
  all_goals try (exfalso; simp_all; done)
  all_goals try (exfalso; omega)
  all_goals exact ⟨j + 1, by omega, ⟨rfl, rfl, Zb j2, trivial⟩, by omega⟩
 ·clear ha
  repeat' (first | (refine w2_ ?_ ?_ <;> intro _) | refine a1_ ?_|fail)
  all_goals first | rfl | (exfalso; omega)
instance fnOk83 : Zs Tryz.prog 83 := ⟨_, Tryz.func83, rfl, by decide⟩
instance fnOk21 : Zs Tryz.prog 21 := ⟨_, Tryz.func21, rfl, by decide⟩
def imW (w : List Int) (j : Nat) : List (List Int) := Jw w.length fun i k => if i = k /\ i < j then w.getD i 0 else 0
def imE (w : List Int) (E : List (List Int)) (j : Nat) : List (List Int) := Jw w.length fun i k => if i = k then w.getD i 0 else if (k : Int) ∈ apN E i j then 1 else 0
theorem Zw8 {w : List Int} {j : Nat} (hj : j < w.length) : (imW w j).set j (((imW w j).getD j []).set j (w.getD j 0)) = imW w (j + 1) := by
 unfold imW
 rw [Wf hj hj]
 refine Yo fun i k hi hk => ?_
 by_cases h : i = j /\ k = j
 ·rw [if_pos h, if_pos j2, h.1]
 ·rw [if_neg h]
  by_cases h2 : i = k /\ i < j
  ·rw [if_pos h2, if_pos j2]
  ·rw [if_neg h2, if_neg j2]
theorem Zw9 (w : List Int) : (Jw w.length fun _ _ => 0) = imW w 0 := Yo fun i k _ _ => by rw [if_neg j2]
theorem Zzf (w : List Int) (E : List (List Int)) : imW w w.length = imE w E 0 := Yo fun i k hi _ => by
 by_cases e : i = k
 ·rw [if_pos ⟨e, hi⟩, if_pos e]
 ·rw [if_neg (fun q => e q.1), if_neg e]
  simp [apN]
theorem Zzg {E : List (List Int)} {i : Nat} {j : Nat} {x : Int} : x ∈ apN E i (j + 1) ↔ x ∈ apN E i j \/ (ea E j = (i : Int) /\ x = eb E j) \/ (¬ ea E j = (i : Int) /\ eb E j = (i : Int) /\ x = ea E j) := by
 rw [apN]
 by_cases h1 : ea E j = (i : Int)
 ·rw [if_pos h1, List.mem_append, List.mem_singleton]
  constructor
  ·rintro (h | h)
   ·exact .inl h
   ·exact .inr (.inl ⟨h1, h⟩)
  ·rintro (h | h | h)
   ·exact .inl h
   ·exact .inr h.2
   ·exact absurd h1 h.1
 ·rw [if_neg h1]
  by_cases h2 : eb E j = (i : Int)
  ·rw [if_pos h2, List.mem_append, List.mem_singleton]
   constructor
   ·rintro (h | h)
    ·exact .inl h
    ·exact .inr (.inr ⟨h1, h2, h⟩)
   ·rintro (h | h | h)
    ·exact .inl h
    ·exact absurd h.1 h1
    ·exact .inr h.2.2
  ·rw [if_neg h2]
   constructor
   ·exact .inl
   ·rintro (h | h | h)
    ·exact h
    ·exact absurd h.1 h1
    ·exact absurd h.2.1 h2
theorem Zxa {w : List Int} {E : List (List Int)} {j a b : Nat} (ha : ea E j = (a : Int)) (hb : eb E j = (b : Int)) (hab : a < b) (hbn : b < w.length) :
  ((imE w E j).set a (((imE w E j).getD a []).set b 1)).set b ((((imE w E j).set a (((imE w E j).getD a []).set b 1)).getD b []).set a 1) = imE w E (j + 1) := by
 unfold imE
 rw [Wf j2 hbn, Wf hbn j2]
 refine Yo fun i k hi hk => ?_
 simp only [Zzg, ha, hb]
 by_cases h1 : i = b /\ k = a
 ·rw [if_pos h1, if_neg j2, if_pos j2]
 ·rw [if_neg h1]
  by_cases h2 : i = a /\ k = b
  ·rw [if_pos h2, if_neg j2, if_pos j2]
  ·rw [if_neg h2]
   by_cases h3 : i = k
   ·rw [if_pos h3, if_pos h3]
   ·rw [if_neg h3, if_neg h3]
    by_cases h4 : (k : Int) ∈ apN E i j
    ·rw [if_pos h4, if_pos (.inl h4)]
    ·rw [if_neg h4, if_neg (by
      rintro (h | h | h)
      ·exact h4 h
      ·omega
      ·omega)]
theorem Zzh {w : List Int} {E : List (List Int)} (hg : Z0 w.length E) : imE w E E.length = mtx w E w.length := by
 unfold imE Jw mtx Zvy Zsu
 refine List.map_congr_left fun i _ => List.map_congr_left fun k _ => ?_
 rw [List.take_length]
 have hp := Zhf hg i E.length (Nat.le_refl _)
 have hm : (k : Int) ∈ apN E i E.length ↔ (k : Int) ∈ Zf E i := by
  rw [hp.mem_iff]
  rfl
 dsimp only
 by_cases e : i = k
 ·rw [if_pos e, if_pos e.symm]
 ·rw [if_neg e, if_neg (Ne.symm e)]
  by_cases h : (k : Int) ∈ Zf E i
  ·rw [if_pos h, if_pos (hm.2 h)]
  ·rw [if_neg h, if_neg (fun q => h (hm.1 q))]
theorem Xbd (w : List Int) (E : List (List Int)) (hg : Zp w E) : Zj Tryz.prog 83 [aGr w E] [rLL (mtx w E w.length)] [] := by
 have hlen := hg.1
 have hfew := hg.few
 have hge := hg.2.2.1
 have hSq := Znx w.length j2
 rw [Zw9] at hSq
 have hend := Zzh hge
 rw [<- hend]
 have hwe := Zzf w E
 clear hend
 refine cA_ _ Tryz.func83 rfl Tryz.ntmps83 sO_ ?_
 repeat' (first | (refine w2_ ?_ ?_ <;> intro _) | refine kM_ hSq ?_ | refine a1_ ?_|fail)
 clear hSq
 refine WpA.loop_slots2 (fun j i3 => [(1, .own 1 (.pt true [.sl false 1 (Ze w), .sl false 1 (LLs E)])), (3, .own i3 (.sl true 1 (LL (imW w j)))), (13, .c (.sl false 1 (Ze w))), (14, vGI w.length), (15, vGI j)]) (fun j => j <= w.length) (fun j => w.length - j) 0 _ j2 ⟨rfl, xR_, rfl, rfl, rfl, trivial⟩ ?_
 intro j i3 s nx hj
 have hl1 : (imW w j).length = w.length := Jm _ _
 by_cases hlt : j < w.length
 ·have hr1 : ((imW w j).getD (j * 1) []).length = w.length := Ja _ j2
  have e := Zw8 hlt
  have e2 : (imW w j).set (j * 1) (((imW w j).getD (j * 1) []).set (j * 1) (w.getD (j * 1) 0)) = imW w (j + 1) := by simp only [Nat.mul_one]; exact e
  clear e hg hge hwe
  generalize imW w j = A at *
  repeat' (first | (refine w2_ ?_ ?_ <;> intro _) | refine a1_ ?_|fail)
  all_goals try (exfalso; omega)
  all_goals exact ⟨j + 1, by omega, ⟨_, rfl, by exact Za6 j2 e2, rfl, rfl, Zb j2, trivial⟩, by omega⟩
 ·obtain rfl : j = w.length := by omega
  rw [hwe]
  repeat' (first | (refine w2_ ?_ ?_ <;> intro _) | refine a1_ ?_|fail)
  all_goals try (exfalso; omega)
  refine WpA.loop_slots2 (fun j i3 => [(1, .own 1 (.pt true [.sl false 1 (Ze w), .sl false 1 (LLs E)])), (3, .own i3 (.sl true 1 (LL (imE w E j)))), (29, .c (.sl false 1 (LLs E))), (30, vGI E.length), (31, vGI j)]) (fun j => j <= E.length) (fun j => E.length - j) 0 _ j2 ⟨rfl, xR_, rfl, rfl, rfl, trivial⟩ ?_
  clear hwe hl1
  intro j i3 s nx hj
  have hl2 : (imE w E j).length = w.length := Jm _ _
  by_cases hlt : j < E.length
  ·have g := hge j hlt
   have r2 : (E.getD (j * 1) []).length = 2 := by rw [Nat.mul_one]; exact g.1
   have r0 : (E.getD (j * 1) []).getD (0 * 1) 0 = ea E j := by rw [Nat.mul_one]; rfl
   have r1 : (E.getD (j * 1) []).getD (1 * 1) 0 = eb E j := by rw [Nat.mul_one]; rfl
   have g1 := g.2.1
   have e := Zxa (w := w) (E := E) (j := j) (a := (ea E j).toNat) (b := (eb E j).toNat) j2 j2 j2 j2
   have hra : ((imE w E j).getD ((ea E j).toNat * 1) []).length = w.length := Ja _ j2
   have hrb : ((imE w E j).getD ((eb E j).toNat * 1) []).length = w.length := Ja _ j2
   rw [<- r0, <- r1] at e g1
   rw [<- r0] at hra
   rw [<- r1] at hrb
   have hrb2 : (((imE w E j).set (((E.getD (j * 1) []).getD (0 * 1) 0).toNat * 1) (((imE w E j).getD (((E.getD (j * 1) []).getD (0 * 1) 0).toNat * 1) []).set (((E.getD (j * 1) []).getD (1 * 1) 0).toNat * 1) 1)).getD (((E.getD (j * 1) []).getD (1 * 1) 0).toNat * 1) []).length = w.length := by
    rw [Qb j2]
    split
    ·rw [List.length_set]; exact hra
    ·exact hrb
   have hl3 : ((imE w E j).set (((E.getD (j * 1) []).getD (0 * 1) 0).toNat * 1) (((imE w E j).getD (((E.getD (j * 1) []).getD (0 * 1) 0).toNat * 1) []).set (((E.getD (j * 1) []).getD (1 * 1) 0).toNat * 1) 1)).length = w.length := by rw [List.length_set]; exact hl2
   have e2 : ((imE w E j).set (((E.getD (j * 1) []).getD (0 * 1) 0).toNat * 1) (((imE w E j).getD (((E.getD (j * 1) []).getD (0 * 1) 0).toNat * 1) []).set (((E.getD (j * 1) []).getD (1 * 1) 0).toNat * 1) 1)).set (((E.getD (j * 1) []).getD (1 * 1) 0).toNat * 1) ((((imE w E j).set (((E.getD (j * 1) []).getD (0 * 1) 0).toNat * 1) (((imE w E j).getD (((E.getD (j * 1) []).getD (0 * 1) 0).toNat * 1) []).set (((E.getD (j * 1) []).getD (1 * 1) 0).toNat * 1) 1)).getD (((E.getD (j * 1) []).getD (1 * 1) 0).toNat * 1) []).set (((E.getD (j * 1) []).getD (0 * 1) 0).toNat * 1) 1) = imE w E (j + 1) := by
    simp only [Nat.mul_one, Nat.zero_mul, Nat.one_mul] at e ⊢
    exact e
   clear e hg hge g r0 r1
   generalize imE w E j = A at *
   repeat' (first | (refine w2_ ?_ ?_ <;> intro _) | (guard_target =~ IsN; first | refine Za.cons (Zaw rfl rfl rfl j2 j2) ?_) | refine a1_ ?_|fail)
   all_goals try (exfalso; omega)
   all_goals exact ⟨j + 1, by omega, ⟨_, rfl, by exact V1 e2, rfl, rfl, Zb j2, trivial⟩, by omega⟩
  ·obtain rfl : j = E.length := by omega
   clear hg hge
   repeat' (first | (refine w2_ ?_ ?_ <;> intro _) | refine a1_ ?_|fail)
   all_goals first | rfl | (exfalso; omega)
theorem Xbe (w : List Int) (E : List (List Int)) (hg : Zp w E) : Zj Tryz.prog 21 [aGr w E] [rLL (mtx w E w.length), rI 0] [] := by
 have hI := Jg w E (by have := hg.1; omega) (by have := hg.1; have := hg.few; omega)
 rw [decide_eq_true hg] at hI
 have hM := Xbd w E hg
 clear hg
 refine cA_ _ Tryz.func21 rfl Tryz.ntmps21 sO_ ?_
 repeat' (first | (refine w2_ ?_ ?_ <;> intro _) | (guard_target =~ Zh; first | refine Za.cons (sC_ (hI) (.sh .nil) (.shAgg rfl gA_ .nil) rfl) ?_ | refine Za.cons (sC_ (hM) (.sh .nil) (.shAgg rfl gA_ .nil) rfl) ?_) | refine a2_ ?_|fail)
 all_goals first | rfl | (exfalso; simp_all; done)
instance fnOk20 : Zs Tryz.prog 20 := ⟨_, Tryz.func20, rfl, by decide⟩
attribute [local irreducible] Zp decIsGr Xah Xai
noncomputable def gdR (w : List Int) (E : List (List Int)) : Int × Int := if Zp w E then (if (U8 w E).2 = true then ((U8 w E).1, 0) else (0, 3)) else (0, 1)
theorem Zzi {w : List Int} {E : List (List Int)} (hg : ¬ Zp w E) : gdR w E = (0, 1) := by unfold gdR; rw [if_neg hg]
theorem Zme {w : List Int} {E : List (List Int)} (hg : Zp w E) (h : (U8 w E).2 = false) : gdR w E = (0, 3) := by unfold gdR; rw [if_pos hg, if_neg (by rw [h]; decide)]
theorem Zqf {w : List Int} {E : List (List Int)} (hg : Zp w E) (h : (U8 w E).2 = true) : gdR w E = ((U8 w E).1, 0) := by unfold gdR; rw [if_pos hg, if_pos h]
theorem Zoq (w : List Int) (E : List (List Int)) (hw : w.length <= 2000000) (hE : E.length <= 2000000) : Zj Tryz.prog 20 [aGr w E] [rI (gdR w E).1, rI (gdR w E).2] [] := by
 have hI := Jg w E hw hE
 by_cases hg : Zp w E
 ·rw [decide_eq_true hg] at hI
  have hD := Zas w E hg
  cases hb : (U8 w E).2 with
  | true =>
   rw [Zqf hg hb]
   rw [hb] at hD
   generalize (U8 w E).1 = x at *
   refine cA_ _ Tryz.func20 rfl Tryz.ntmps20 sO_ ?_
   repeat' (first | (refine w2_ ?_ ?_ <;> intro _) | (guard_target =~ Zh; first | refine Za.cons (sC_ (hI) (.sh .nil) (.shAgg rfl gA_ .nil) rfl) ?_ | refine Za.cons (sC_ (hD) (.sh .nil) (.shAgg rfl gA_ .nil) rfl) ?_) | refine a2_ ?_|fail)
   all_goals first | rfl | (exfalso; omega)
  | false =>
   rw [Zme hg hb]
   rw [hb] at hD
   generalize (U8 w E).1 = x at *
   refine cA_ _ Tryz.func20 rfl Tryz.ntmps20 sO_ ?_
   repeat' (first | (refine w2_ ?_ ?_ <;> intro _) | (guard_target =~ Zh; first | refine Za.cons (sC_ (hI) (.sh .nil) (.shAgg rfl gA_ .nil) rfl) ?_ | refine Za.cons (sC_ (hD) (.sh .nil) (.shAgg rfl gA_ .nil) rfl) ?_) | refine a2_ ?_|fail)
   all_goals first | rfl | (exfalso; omega)
 ·rw [decide_eq_false hg] at hI
  rw [Zzi hg]
  refine cA_ _ Tryz.func20 rfl Tryz.ntmps20 sO_ ?_
  repeat' (first | (refine w2_ ?_ ?_ <;> intro _) | (guard_target =~ Zh; first | refine Za.cons (sC_ (hI) (.sh .nil) (.shAgg rfl gA_ .nil) rfl) ?_) | refine a2_ ?_|fail)
  all_goals first | rfl | (exfalso; omega)
end Go.Proofs.YtmgmpnhlehonmaaGreat
