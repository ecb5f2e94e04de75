/- Edge determinants, by the program and by the reference. No condition. -/
import Derived.Test.YtmgmpnhlehonmaaGreatKHgA
import Derived.Test.YtmgmpnhlehonmaaGreatKHfB
import Derived.Test.YtmgmpnhlehonmaaGreatKHaC
import Derived.Test.YtmgmpnhlehonmaaGreatKHfE
set_option linter.unusedVariables false
set_option linter.unusedSimpArgs false
namespace Go.Proofs.YtmgmpnhlehonmaaGreat
set_option maxHeartbeats 20000000
open Go.Pv
open Go.ChangeShapes Go.WideShapes Go.ChangeAt Go.RowKit
attribute [local irreducible] RunU WpA Step CallG CallNG Done DoneN
def prs (f : Int → Int → Bool) : List Int → Nat
 | [] => 0
 | i :: l => l.countP (f i) + prs f l
theorem cnt_or {f u v : Int → Bool} : ∀ {l : List Int}, (∀ k ∈ l, f k = (u k || v k) ∧ ¬ (u k = true ∧ v k = true)) → l.countP f = l.countP u + l.countP v
 | [], _ => rfl
 | k :: l, h => by
  have ih := cnt_or (l := l) fun x hx => h x (by simp [hx])
  obtain ⟨h1, h2⟩ := h k (by simp)
  rw [List.countP_cons, List.countP_cons, List.countP_cons, ih, h1]
  cases hu : u k <;> cases hv : v k <;> simp [hu, hv] at h2 ⊢ <;> omega
theorem sum_add {u : Int → Bool} {x y : Int → Nat} : ∀ {l : List Int}, (∀ k ∈ l, y k = x k + if u k = true then 1 else 0) → (l.map y).sum = (l.map x).sum + l.countP u
 | [], _ => rfl
 | k :: l, h => by
  have ih := sum_add (l := l) fun a ha => h a (by simp [ha])
  rw [List.map_cons, List.map_cons, List.sum_cons, List.sum_cons, ih, h k (by simp), List.countP_cons]
  omega
theorem cnt_cons (p : Int → Bool) (i : Int) (l : List Int) : (i :: l).countP p = l.countP p + if p i = true then 1 else 0 := List.countP_cons
theorem prs_sum {f g : Int → Int → Bool} : ∀ {C : List Int}, C.Nodup → (∀ a ∈ C, ∀ b ∈ C, a ≠ b → f a b = (g a b || g b a) ∧ ¬ (g a b = true ∧ g b a = true)) → (∀ a ∈ C, g a a = false) → prs f C = (C.map fun k => C.countP fun a => g a k).sum
 | [], _, _, _ => rfl
 | i :: l, hn, h, h0 => by
  rw [List.nodup_cons] at hn
  have ih := prs_sum (C := l) hn.2 (fun a ha b hb => h a (by simp [ha]) b (by simp [hb])) (fun a ha => h0 a (by simp [ha]))
  have e1 : l.countP (f i) = l.countP (fun k => g i k) + l.countP (fun k => g k i) := cnt_or fun k hk => h i (by simp) k (by simp [hk]) (fun e => hn.1 (e ▸ hk))
  have e2 := sum_add (u := fun k => g i k) (x := fun k => l.countP fun a => g a k) (y := fun k => (i :: l).countP fun a => g a k) (l := l) fun k _ => cnt_cons _ i l
  rw [prs, List.map_cons, List.sum_cons, e2, ih, e1, cnt_cons, h0 i (by simp)]
  simp
  omega
theorem cnt_zero {p : Int → Bool} {l : List Int} (h : ∀ b ∈ l, p b = false) : l.countP p = 0 := by
 rw [List.countP_eq_zero]
 intro b hb
 rw [h b hb]; simp
theorem cnt_one {p : Int → Bool} {a : Int} : ∀ {l : List Int}, l.Nodup → a ∈ l → p a = true → (∀ b ∈ l, p b = true → b = a) → l.countP p = 1
 | [], _, h, _, _ => by simp at h
 | x :: l, hn, h, hp, hu => by
  rw [List.nodup_cons] at hn
  rw [cnt_cons]
  by_cases e : x = a
  ·subst e
   rw [if_pos hp, cnt_zero fun b hb => ?_]
   cases q : p b with
   | false => rfl
   | true => exact absurd (hu b (by simp [hb]) q ▸ hb) hn.1
  ·have hx : p x = false := by
    cases q : p x with
    | false => rfl
    | true => exact absurd (hu x (by simp) q) e
   rw [hx, cnt_one hn.2 (by rcases List.mem_cons.1 h with q | q; exact absurd q.symm e; exact q) hp (fun b hb => hu b (by simp [hb]))]
   simp
theorem sum_one {r : Int} {x : Int → Nat} : ∀ {l : List Int}, l.Nodup → r ∈ l → x r = 0 → (∀ k ∈ l, k ≠ r → x k = 1) → (l.map x).sum + 1 = l.length
 | [], _, h, _, _ => by simp at h
 | k :: l, hn, h, h0, h1 => by
  rw [List.nodup_cons] at hn
  rw [List.map_cons, List.sum_cons, List.length_cons]
  by_cases e : k = r
  ·subst e
   have : ∀ {m : List Int}, (∀ j ∈ m, x j = 1) → (m.map x).sum = m.length := by
    intro m
    induction m with
    | nil => intro _; rfl
    | cons j m ih => intro hm; rw [List.map_cons, List.sum_cons, hm j (by simp), ih (fun i hi => hm i (by simp [hi])), List.length_cons]; omega
   rw [h0, this fun j hj => h1 j (by simp [hj]) (fun e => hn.1 (e ▸ hj))]
   omega
  ·have ih := sum_one hn.2 (by rcases List.mem_cons.1 h with q | q; exact absurd q.symm e; exact q) h0 (fun j hj => h1 j (by simp [hj]))
   rw [h1 k (by simp) e]
   omega
structure Pa (E : List (List Int)) (i k : Int) (P : List Int) : Prop where
 nb : NB E P
 hd : P.head? = some i
 ls : P.getLast? = some k
theorem Pa.eq {w : List Int} {E : List (List Int)} (hg : IsGr w E) {i k : Int} (hi : 0 ≤ i ∧ i < w.length) {P : List Int} (h : Pa E i k P) : pth w E i k = P := by
 obtain ⟨l, rfl⟩ := List.head?_eq_some_iff.1 h.hd
 obtain ⟨q, e⟩ := List.getLast?_eq_some_iff.1 h.ls
 exact pth_some hg hi h.nb e
theorem pa_pth {w : List Int} {E : List (List Int)} (hg : IsGr w E) (he : E.length + 1 = w.length) {i k : Int} (hi : 0 ≤ i ∧ i < w.length) (hk : 0 ≤ k ∧ k < w.length) : Pa E i k (pth w E i k) := by
 obtain ⟨z, hz⟩ := bw_conn hg he hi hk
 obtain ⟨l, q, k1, k2, k3⟩ := pth_bw hg hi hz
 rw [k3]
 exact ⟨k1, rfl, by rw [k2]; simp⟩
theorem last_app (p : List Int) (a : Int) (q : List Int) : (p ++ a :: q).getLast? = (a :: q).getLast? := by
 rw [List.getLast?_append, List.getLast?_cons]; rfl
theorem Pa.suf {E : List (List Int)} {r k a : Int} {p q : List Int} (h : Pa E r k (p ++ a :: q)) : Pa E a k (a :: q) :=
 ⟨NB.right p h.nb, rfl, by have := h.ls; rwa [last_app] at this⟩
theorem Pa.pre {E : List (List Int)} {r k a : Int} {p q : List Int} (h : Pa E r k (p ++ a :: q)) : Pa E r a (p ++ [a]) := by
 refine ⟨?_, ?_, by simp⟩
 ·have := h.nb
  rw [show p ++ a :: q = (p ++ [a]) ++ q by simp] at this
  exact NB.left _ this
 ·have := h.hd
  cases p with
  | nil => simpa using this
  | cons x p => simpa using this
theorem inn_mid (a k : Int) (q : List Int) : inn (a :: (q ++ [k])) = q := by
 unfold inn
 simp
theorem pa_two {E : List (List Int)} {a b : Int} {P : List Int} (h : Pa E a b P) (hne : a ≠ b) : ∃ q, P = a :: (q ++ [b]) := by
 obtain ⟨l, e⟩ := List.head?_eq_some_iff.1 h.hd
 obtain ⟨q, e2⟩ := List.getLast?_eq_some_iff.1 h.ls
 cases q with
 | nil => rw [e] at e2; simp at e2; exact absurd e2.1 hne
 | cons x q =>
  rw [e] at e2
  simp only [List.cons_append, List.cons.injEq] at e2
  exact ⟨q, by rw [e, e2.2]⟩
theorem anyC_false {C q : List Int} : anyC C q = false ↔ ∀ y ∈ q, y ∉ C := by simp [anyC]
theorem anyC_rev (C q : List Int) : anyC C q.reverse = anyC C q := by simp [anyC]
theorem any_symm {w : List Int} {E : List (List Int)} (hg : IsGr w E) (he : E.length + 1 = w.length) {a b : Int} (ha : 0 ≤ a ∧ a < w.length) (hb : 0 ≤ b ∧ b < w.length) (hne : a ≠ b) (C : List Int) : anyC C (inn (pth w E b a)) = anyC C (inn (pth w E a b)) := by
 obtain ⟨q, e⟩ := pa_two (pa_pth hg he ha hb) hne
 rw [pth_rev hg ha hb, e, inn_mid]
 rw [show (a :: (q ++ [b])).reverse = b :: (q.reverse ++ [a]) by simp, inn_mid, anyC_rev]
theorem last_in {C : List Int} : ∀ {u : List Int}, (∃ x ∈ u, x ∈ C) → ∃ p a q, u = p ++ a :: q ∧ a ∈ C ∧ ∀ y ∈ q, y ∉ C
 | [], ⟨x, h, _⟩ => by simp at h
 | y :: u, h => by
  by_cases h2 : ∃ x ∈ u, x ∈ C
  ·obtain ⟨p, a, q, e, h3⟩ := last_in h2
   exact ⟨y :: p, a, q, by rw [e]; rfl, h3⟩
  ·obtain ⟨x, hx, hC⟩ := h
   rcases List.mem_cons.1 hx with e | e
   ·subst e
    exact ⟨[], x, u, rfl, hC, fun z hz q => h2 ⟨z, hz, q⟩⟩
   ·exact absurd ⟨x, e, hC⟩ h2
theorem last_uniq {C p q p' q' : List Int} {a b : Int} (e : p ++ a :: q = p' ++ b :: q') (ha : a ∈ C) (hb : b ∈ C) (hq : ∀ y ∈ q, y ∉ C) (hq' : ∀ y ∈ q', y ∉ C) : a = b := by
 rcases List.append_eq_append_iff.1 e with ⟨t, e1, e2⟩ | ⟨t, e1, e2⟩
 ·cases t with
  | nil => simp at e2; exact e2.1
  | cons x t =>
   simp only [List.cons_append, List.cons.injEq] at e2
   exact absurd hb (hq b (by rw [e2.2]; simp))
 ·cases t with
  | nil => simp at e2; exact e2.1.symm
  | cons x t =>
   simp only [List.cons_append, List.cons.injEq] at e2
   exact absurd ha (hq' a (by rw [e2.2]; simp))
theorem fork : ∀ (P Q : List Int) (r : Int), (∃ t, r :: Q = (r :: P) ++ t) ∨ (∃ t, r :: P = (r :: Q) ++ t) ∨ ∃ m x y z P' Q', r :: P = m ++ x :: y :: P' ∧ r :: Q = m ++ x :: z :: Q' ∧ y ≠ z
 | [], Q, r => .inl ⟨Q, rfl⟩
 | y :: P, [], r => .inr (.inl ⟨y :: P, rfl⟩)
 | y :: P, z :: Q, r => by
  by_cases e : y = z
  ·subst e
   rcases fork P Q y with ⟨t, h⟩ | ⟨t, h⟩ | ⟨m, x, a, b, P', Q', h1, h2, h3⟩
   ·exact .inl ⟨t, by rw [h]; rfl⟩
   ·exact .inr (.inl ⟨t, by rw [h]; rfl⟩)
   ·exact .inr (.inr ⟨r :: m, x, a, b, P', Q', by rw [h1]; rfl, by rw [h2]; rfl, h3⟩)
  ·exact .inr (.inr ⟨[], r, y, z, P, Q, rfl, rfl, e⟩)
theorem three_le {l : List Int} {t y z : Int} (h1 : t ∈ l) (h2 : y ∈ l) (h3 : z ∈ l) (a : t ≠ y) (b : t ≠ z) (c : y ≠ z) : 3 ≤ l.length := by
 rcases l with _ | ⟨p, _ | ⟨q, _ | ⟨s, l⟩⟩⟩
 ·simp at h1
 ·simp at h1 h2; omega
 ·simp at h1 h2 h3; omega
 ·simp
theorem crn_mem {E : List (List Int)} {A : List Int} : ∀ {n j : Nat}, j < n → ((near E j).length : Int) + A.getD j 0 ≠ 2 → (j : Int) ∈ crn E A n
 | 0, j, h, _ => by omega
 | n + 1, j, h, hc => by
  rw [crn]
  by_cases e : j = n
  ·subst e
   rw [if_pos hc]; simp
  ·have := crn_mem (n := n) (j := j) (by omega) hc
   split
   ·exact List.mem_append_left _ this
   ·exact this
theorem not_both' {w : List Int} {E : List (List Int)} (hg : IsGr w E) (he : E.length + 1 = w.length) {r a b : Int} (hr : 0 ≤ r ∧ r < w.length) (ha : 0 ≤ a ∧ a < w.length) (hb : 0 ≤ b ∧ b < w.length) (hne : a ≠ b) (h1 : a ∈ pth w E r b) : b ∉ pth w E r a := by
 have h2 := pa_pth hg he hr hb
 obtain ⟨p, q, e⟩ := List.append_of_mem h1
 rw [e] at h2
 have hn := hg.forest _ h2.nb
 rw [Pa.eq hg hr h2.pre]
 intro hb2
 have hbp : b ∈ p := by
  rcases List.mem_append.1 hb2 with h | h
  ·exact h
  ·simp at h; exact absurd h.symm hne
 have hbq : b ∈ a :: q := List.mem_of_getLast? h2.suf.ls
 exact (List.nodup_append.1 hn).2.2 b hbp b hbq rfl
theorem one_on {w : List Int} {E : List (List Int)} (hg : IsGr w E) (he : E.length + 1 = w.length) {A : List Int} (hA : Arr w A) {r a b : Int} (hr : 0 ≤ r ∧ r < w.length) (ha : 0 ≤ a ∧ a < w.length) (hb : 0 ≤ b ∧ b < w.length) (hne : a ≠ b) (hrC : r ∈ crn E A w.length) (hok : anyC (crn E A w.length) (inn (pth w E a b)) = false) :
  a ∈ pth w E r b ∨ b ∈ pth w E r a := by
 have h1 := pa_pth hg he hr ha
 have h2 := pa_pth hg he hr hb
 have hin := pth_in hg (k := a) hr
 generalize pth w E r a = P at *
 generalize pth w E r b = Q at *
 obtain ⟨P, rfl⟩ := List.head?_eq_some_iff.1 h1.hd
 obtain ⟨Q, rfl⟩ := List.head?_eq_some_iff.1 h2.hd
 rcases fork P Q r with ⟨t, h⟩ | ⟨t, h⟩ | ⟨m, x, y, z, P', Q', e1, e2, hyz⟩
 ·refine .inl ?_
  rw [h]
  exact List.mem_append_left _ (List.mem_of_getLast? h1.ls)
 ·refine .inr ?_
  rw [h]
  exact List.mem_append_left _ (List.mem_of_getLast? h2.ls)
 ·exfalso
  rw [e1] at h1 hin
  rw [e2] at h2
  have n1 := NB.reverse h1.suf.nb
  have hR : Pa E a b ((y :: P').reverse ++ x :: z :: Q') := by
   refine ⟨NB.join _ ?_ h2.suf.nb ?_, ?_, ?_⟩
   ·rwa [List.reverse_cons] at n1
   ·intro p' y' z' q' k1 k2
    rw [List.reverse_cons] at k1
    have k3 : y = y' := by
     have := congrArg List.getLast? k1
     simpa using this
    simp only [List.cons.injEq] at k2
    rw [← k3, ← k2.1]
    exact hyz
   ·have := h1.suf.ls
    rw [List.getLast?_cons_cons] at this
    rw [List.head?_append, List.head?_reverse, this]; rfl
   ·have := h2.suf.ls
    rw [last_app]
    exact this
  have hC : x ∈ crn E A w.length := by
   rcases List.eq_nil_or_concat m with rfl | ⟨m', t, rfl⟩
   ·have := (List.cons.inj e1).1
    rwa [← this]
   ·have hx := hin x (by simp)
    have g1 := h1.nb
    rw [show m'.concat t ++ x :: y :: P' = m' ++ t :: x :: y :: P' by simp] at g1
    have g2 := h2.nb
    rw [show m'.concat t ++ x :: z :: Q' = m' ++ t :: x :: z :: Q' by simp] at g2
    have g1 := NB.right m' g1
    have g2 := NB.right m' g2
    have nb : ∀ y : Int, y ∈ near E x ↔ Adj E x y := fun y => near_mem hg.2.2.1
    have h3 := three_le ((nb _).2 g1.adj.symm) ((nb _).2 g1.tail.adj) ((nb _).2 g2.tail.adj) (by have := g1.2.1; exact this) (by have := g2.2.1; exact this) hyz
    have hm := crn_mem (E := E) (A := A) (n := w.length) (j := x.toNat) (by omega) (by
     have := (arr_in hA x.toNat).1
     rw [show ((x.toNat : Nat) : Int) = x by omega]
     omega)
    rwa [show ((x.toNat : Nat) : Int) = x by omega] at hm
  rw [Pa.eq hg ha hR, anyC_false] at hok
  refine hok x ?_ hC
  rcases List.eq_nil_or_concat (z :: Q') with q | ⟨v, u, q⟩
  ·simp at q
  ·rcases hL : (y :: P').reverse with _ | ⟨c, L⟩
   ·simp at hL
   ·rw [q, show c :: L ++ x :: v.concat u = c :: ((L ++ x :: v) ++ [u]) by simp, inn_mid]
    simp
theorem prs_crn {w : List Int} {E : List (List Int)} (hg : IsGr w E) (he : E.length + 1 = w.length) {A : List Int} (hA : Arr w A) (h0 : crn E A w.length ≠ []) : prs (fun i k => !anyC (crn E A w.length) (inn (pth w E i k))) (crn E A w.length) + 1 = (crn E A w.length).length := by
 have hasc := crn_asc E A w.length
 have hin := crn_in E A w.length
 obtain ⟨r, l, hC⟩ := List.exists_cons_of_ne_nil h0
 have hrC : r ∈ crn E A w.length := by rw [hC]; simp
 have hr := hin r hrC
 have h1 : ∀ {a b : Int}, a ∈ crn E A w.length → b ∈ crn E A w.length → a ≠ b → anyC (crn E A w.length) (inn (pth w E a b)) = false → a ∈ pth w E r b ∨ b ∈ pth w E r a := fun ha hb hne hok => one_on hg he hA hr (hin _ ha) (hin _ hb) hne hrC hok
 clear hA
 generalize crn E A w.length = C at *
 have hn : C.Nodup := hasc.imp fun h => by omega
 have hrr : pth w E r r = [r] := Pa.eq hg hr ⟨trivial, rfl, rfl⟩
 rw [prs_sum (g := fun a k => decide (a ∈ pth w E r k ∧ a ≠ k) && !anyC C (inn (pth w E a k))) hn ?_ ?_]
 ·refine sum_one hn hrC ?_ ?_
  ·refine cnt_zero fun b hb => ?_
   simp only [hrr, Bool.and_eq_false_imp, decide_eq_true_eq, List.mem_singleton]
   intro h
   exact absurd h.1 h.2
  ·intro k hk hkr
   have hp := pa_pth hg he hr (hin k hk)
   obtain ⟨u, e⟩ := pa_two hp (fun q => hkr q.symm)
   have hnd := hg.forest _ hp.nb
   rw [e] at hp hnd
   obtain ⟨p, a, q, e2, haC, hq⟩ := last_in (C := C) (u := r :: u) ⟨r, by simp, hrC⟩
   have e3 : r :: (u ++ [k]) = p ++ a :: (q ++ [k]) := by rw [← List.cons_append, e2]; simp
   rw [e3] at hp hnd e
   have hak : pth w E a k = a :: (q ++ [k]) := Pa.eq hg (hin a haC) hp.suf
   refine cnt_one (a := a) hn haC ?_ ?_
   ·rw [Bool.and_eq_true, decide_eq_true_eq, hak, inn_mid, anyC_false.2 hq]
    refine ⟨⟨by rw [e]; simp, fun q2 => ?_⟩, rfl⟩
    have := (List.nodup_append.1 hnd).2.1
    rw [List.nodup_cons, q2] at this
    exact this.1 (by simp)
   ·intro b hb hbg
    rw [Bool.and_eq_true, decide_eq_true_eq] at hbg
    obtain ⟨⟨hb1, hb2⟩, hb3⟩ := hbg
    rw [e, ← e3, ← List.cons_append] at hb1
    have hbu : b ∈ r :: u := by
     rcases List.mem_append.1 hb1 with h | h
     ·exact h
     ·simp at h; exact absurd h hb2
    obtain ⟨p', q', e4⟩ := List.append_of_mem hbu
    have e5 : p ++ a :: (q ++ [k]) = p' ++ b :: (q' ++ [k]) := by rw [← e3, ← List.cons_append, e4]; simp
    rw [e5] at hp
    rw [Pa.eq hg (hin b hb) hp.suf, inn_mid] at hb3
    have hq' := anyC_false.1 (by simpa using hb3)
    exact (last_uniq (by rw [← e2, e4]) haC hb hq hq').symm
 ·intro a ha b hb hne
  have hsy := any_symm hg he (hin a ha) (hin b hb) hne C
  rw [hsy]
  cases hok : anyC C (inn (pth w E a b)) with
  | true => simp
  | false =>
   rcases h1 ha hb hne hok with h | h
   ·have := not_both' hg he hr (hin a ha) (hin b hb) hne h
    simp [h, hne, this]
   ·have := not_both' hg he hr (hin b hb) (hin a ha) (fun q => hne q.symm) h
    simp [h, this, Ne.symm hne]
 ·intro a ha
  simp
theorem dgIn_facts {f : Int → Int → Int × Bool} {C : List Int} {pt : Int → Int → List Int} {i : Int} : ∀ {l : List Int} {out o : List (List Int)}, dgIn (cellD f C pt) i l out = some o →
  o.length = out.length + l.countP (fun k => !anyC C (inn (pt i k))) ∧ ∀ r ∈ o, r ∈ out ∨ ∃ k ∈ l, r = [i, k, (f i ((pt i k).getD 1 0)).1, (f k (lastB (pt i k))).1] ∧ (f i ((pt i k).getD 1 0)).2 = true ∧ (f k (lastB (pt i k))).2 = true
 | [], out, o, h => by
  simp only [dgIn, Option.some.injEq] at h
  subst h
  exact ⟨rfl, fun r hr => .inl hr⟩
 | k :: l, out, o, h => by
  rw [dgIn] at h
  cases hc : cellD f C pt i k with
  | none => rw [hc] at h; simp at h
  | some s =>
   rw [hc, Option.bind_some] at h
   obtain ⟨h1, h2⟩ := dgIn_facts h
   unfold cellD at hc
   cases ha : anyC C (inn (pt i k)) with
   | true =>
    rw [ha, if_pos rfl] at hc
    cases hc
    refine ⟨by rw [h1, List.countP_cons, ha]; simp, fun r hr => ?_⟩
    rcases h2 r hr with q | ⟨k', hk, q⟩
    ·exact .inl (by simpa using q)
    ·exact .inr ⟨k', by simp [hk], q⟩
   | false =>
    rw [ha, if_neg (by simp)] at hc
    split at hc
    ·rename_i hb
     cases hc
     rw [Bool.and_eq_true] at hb
     refine ⟨by rw [h1, List.countP_cons, ha]; simp; omega, fun r hr => ?_⟩
     rcases h2 r hr with q | ⟨k', hk, q⟩
     ·rcases List.mem_append.1 q with q | q
      ·exact .inl q
      ·rw [List.mem_singleton] at q
       exact .inr ⟨k, by simp, q, hb⟩
     ·exact .inr ⟨k', by simp [hk], q⟩
    ·simp at hc
theorem dgOut_facts {f : Int → Int → Int × Bool} {C : List Int} {pt : Int → Int → List Int} : ∀ {l : List Int} {out o : List (List Int)}, l.Nodup → dgOut (cellD f C pt) l out = some o →
  o.length = out.length + prs (fun i k => !anyC C (inn (pt i k))) l ∧ ∀ r ∈ o, r ∈ out ∨ ∃ i ∈ l, ∃ k ∈ l, i ≠ k ∧ r = [i, k, (f i ((pt i k).getD 1 0)).1, (f k (lastB (pt i k))).1] ∧ (f i ((pt i k).getD 1 0)).2 = true ∧ (f k (lastB (pt i k))).2 = true
 | [], out, o, _, h => by
  simp only [dgOut, Option.some.injEq] at h
  subst h
  exact ⟨rfl, fun r hr => .inl hr⟩
 | i :: l, out, o, hn, h => by
  rw [List.nodup_cons] at hn
  rw [dgOut] at h
  cases hc : dgIn (cellD f C pt) i l out with
  | none => rw [hc] at h; simp at h
  | some s =>
   rw [hc, Option.bind_some] at h
   obtain ⟨h1, h2⟩ := dgOut_facts hn.2 h
   obtain ⟨k1, k2⟩ := dgIn_facts hc
   refine ⟨by rw [h1, k1, prs]; omega, fun r hr => ?_⟩
   rcases h2 r hr with q | ⟨a, ha, k, hk, q⟩
   ·rcases k2 r q with q | ⟨k, hk, q⟩
    ·exact .inl q
    ·exact .inr ⟨i, by simp, k, by simp [hk], fun e => hn.1 (e ▸ hk), q⟩
   ·exact .inr ⟨a, by simp [ha], k, by simp [hk], q⟩
def RowD (w : List Int) (E : List (List Int)) (r : List Int) : Prop := ∃ i k : Int, (0 ≤ i ∧ i < w.length) ∧ (0 ≤ k ∧ k < w.length) ∧ i ≠ k ∧ r = [i, k, (setI w E (bhL w E i ((pth w E i k).getD 1 0))).1, (setI w E (bhL w E k (lastB (pth w E i k)))).1] ∧ (setI w E (bhL w E i ((pth w E i k).getD 1 0))).2 = true ∧ (setI w E (bhL w E k (lastB (pth w E i k)))).2 = true
theorem dg_law {w : List Int} {E : List (List Int)} (hg : IsGr w E) (he : E.length + 1 = w.length) {A : List Int} (hA : Arr w A) {L : List (List Int)} (h : dgV w E A = some L) :
  (crn E A w.length ≠ [] → L.length + 1 = (crn E A w.length).length) ∧ ∀ r ∈ L, RowD w E r := by
 unfold dgV at h
 have hn : (crn E A w.length).Nodup := (crn_asc E A w.length).imp fun h => by omega
 have hin := crn_in E A w.length
 obtain ⟨h1, h2⟩ := dgOut_facts hn h
 refine ⟨fun h0 => ?_, fun r hr => ?_⟩
 ·rw [h1, List.length_nil, Nat.zero_add]
  exact prs_crn hg he hA h0
 ·rcases h2 r hr with q | ⟨i, hi, k, hk, q⟩
  ·simp at q
  ·exact ⟨i, k, hin i hi, hin k hk, q⟩
instance fnOk35 : FnOk Tryz.prog 35 := ⟨_, Tryz.func35, rfl, by decide⟩
instance fnOk36 : FnOk Tryz.prog 36 := ⟨_, Tryz.func36, rfl, by decide⟩
def wL (f : Int → Int × Bool) (l : List Int) : List Int × Int := if l.all (fun x => (f x).2) = true then (l.map fun x => (f x).1, 0) else ([], 3)
theorem all_getD {p : Int → Bool} {l : List Int} : l.all p = true ↔ ∀ j, j < l.length → p (l.getD j 0) = true := by
 rw [List.all_eq_true]
 constructor
 ·intro h j hj; exact h _ (getD_mem hj)
 ·intro h x hx
  obtain ⟨j, hj, e⟩ := List.getElem_of_mem hx
  have := h j hj
  rw [List.getD_eq_getElem?_getD, List.getElem?_eq_getElem hj, e] at this
  exact this
theorem wL_ok {f : Int → Int × Bool} {l : List Int} (h : ∀ j, j < l.length → (f (l.getD j 0)).2 = true) : wL f l = (l.map fun x => (f x).1, 0) := if_pos (all_getD.2 h)
theorem wL_bad {f : Int → Int × Bool} {l : List Int} {j : Nat} (hj : j < l.length) (h : (f (l.getD j 0)).2 = false) : wL f l = ([], 3) := if_neg fun e => by
 have := all_getD.1 e j hj
 rw [h] at this; cases this
theorem wL_congr {f g : Int → Int × Bool} (h : ∀ x, (f x).2 = (g x).2 ∧ ((f x).2 = true → (f x).1 = (g x).1)) (l : List Int) : wL f l = wL g l := by
 unfold wL
 have e : (l.all fun x => (f x).2) = l.all fun x => (g x).2 := by congr 1; funext x; exact (h x).1
 by_cases hf : (l.all fun x => (f x).2) = true
 ·rw [if_pos hf, if_pos (e ▸ hf)]
  congr 1
  refine List.map_congr_left fun x hx => (h x).2 ?_
  exact List.all_eq_true.1 hf x hx
 ·rw [if_neg hf, if_neg (fun k => hf (e ▸ k))]
theorem take_map {α : Type} {g : Int → α} {l : List Int} {j : Nat} (h : j < l.length) : (l.take j).map g ++ [g (l.getD j 0)] = (l.take (j + 1)).map g := by
 rw [List.take_add_one, List.getElem?_eq_getElem h, List.map_append]
 congr 1
 simp [List.getD, h]
theorem wL_len (f : Int → Int × Bool) (l : List Int) : (wL f l).1.length ≤ l.length := by
 unfold wL; split <;> simp
noncomputable def swR (w : List Int) (E : List (List Int)) (v : Int) : List Int × Int := if chkC w E [v] = 0 then wL (fun u => setS w E (bhL w E v u)) (near E v) else ([], chkC w E [v])
theorem one_in {w : List Int} {v : Int} (h : ([v].all (fun v => decide (0 ≤ v ∧ v < (w.length : Int)))) = true) : 0 ≤ v ∧ v < w.length := by simpa using h
theorem specSW_c (w : List Int) (E : List (List Int)) (v : Int) (hw : w.length ≤ 2000000) (hE : E.length ≤ 2000000) : CallA Tryz.prog 36 [aGr w E, aI v] [rL (swR w E v).1, rI (swR w E v).2] [] := by
 have hC := l13Code_c w E [v] hw hE (by simp)
 unfold swR
 by_cases h : chkC w E [v] = 0
 ·rw [if_pos h]
  obtain ⟨hg, hall, hcn⟩ := chk_zero h
  have hv := one_in hall
  have hlen := hg.1
  have hfew := hg.few
  have hN := near_c w E v (by omega) (fun j hj => (hg.2.2.1 j hj).1)
  have hnl := near_le hg.2.2.1 v
  obtain ⟨f, hf⟩ : ∃ f : Int → Int × Bool, f = fun u => setS w E (bhL w E v u) := ⟨_, rfl⟩
  have hW : ∀ u, CallA Tryz.prog 72 [aGr w E, aI v, aI u] [rI (f u).1, rB (f u).2] [] := fun u => by
   rw [hf]; exact l13Weight_c w E v u hg hcn hv
  rw [← hf]
  rw [h] at hC
  clear hf hall
  generalize near E v = R at *
  refine cA_ _ Tryz.func36 rfl Tryz.ntmps36 sO_ ?_
  repeat' (first | (refine Two.mk ?_ ?_ <;> intro _) | (guard_target =~ CallN_; first | refine RunU.cons (sC_ (hC) (.sh (.sh .nil)) (.shAgg rfl gA_ (.sh wS_ .nil)) rfl) ?_ | refine RunU.cons (sC_ (hN) (.sh (.sh .nil)) (.shAgg rfl gA_ (.sh wS_ .nil)) rfl) ?_) | refine goA ?_ | refine nxA ?_ | refine Done.ret (.one rA_ (.one rA_ .nil)) (.sh (.sh .nil)) ?_ rfl)
  all_goals try (exfalso; simp_all; done)
  refine WpA.loop_ids2 (fun j i7 i8 => [(1, vGI v), (2, .own 2 (.pt true [.sl false 1 (ints w), .sl false 1 (LLs E)])), (7, .own i7 (.sl true 1 (ints R))), (8, .own i8 (.sl true 1 (ints ((R.take j).map fun x => (f x).1)))), (9, vGI j)]) (fun j => j ≤ R.length ∧ ∀ i, i < j → (f (R.getD i 0)).2 = true) (fun j => R.length - j) 0 _ _ ⟨by omega, fun i hi => by omega⟩ ⟨rfl, rfl, rfl, by exact own_ints (l := []) rfl, rfl, trivial⟩ ?_
  rintro j i7 i8 s nx ⟨hj, hok⟩
  by_cases hlt : j < R.length
  ·have hWj := hW (R.getD (j * 1) 0)
   have htm := take_map (g := fun x => (f x).1) hlt
   have ej : R.getD (j * 1) 0 = R.getD j 0 := by rw [Nat.mul_one]
   have hml : ((R.take j).map fun x => (f x).1).length = j := by simp; omega
   rw [← ej] at htm
   clear hW hC hN
   cases hb : (f (R.getD (j * 1) 0)).2 with
   | true =>
    rw [hb] at hWj
    repeat' (first | (refine Two.mk ?_ ?_ <;> intro _) | (guard_target =~ CallN_; first | refine RunU.cons (sC_ (hWj) (.sh (.sh (.sh .nil))) (.shAgg rfl gA_ (.sh wS_ (.sh wS_ .nil))) rfl) ?_) | refine goA ?_ | refine nxA ?_ | refine Done.ret (.one rA_ (.one rA_ .nil)) (.sh (.sh .nil)) ?_ rfl)
    all_goals try (exfalso; simp_all; done)
    all_goals try (exfalso; omega)
    refine ⟨j + 1, ⟨by omega, fun i hi => ?_⟩, ⟨_, _, rfl, rfl, rfl, by exact own_ints htm, int_eq (by omega), trivial⟩, by omega⟩
    by_cases e : i = j
    ·rw [e, ← ej]; exact hb
    ·exact hok i (by omega)
   | false =>
    rw [hb] at hWj
    rw [wL_bad hlt (by rw [← ej]; exact hb)]
    clear hok
    repeat' (first | (refine Two.mk ?_ ?_ <;> intro _) | (guard_target =~ CallN_; first | refine RunU.cons (sC_ (hWj) (.sh (.sh (.sh .nil))) (.shAgg rfl gA_ (.sh wS_ (.sh wS_ .nil))) rfl) ?_) | refine goA ?_ | refine nxA ?_ | refine Done.ret (.one rA_ (.one rA_ .nil)) (.sh (.sh .nil)) ?_ rfl)
    all_goals first | rfl | (exfalso; simp_all; done) | (exfalso; omega)
  ·have ej : j = R.length := by omega
   subst ej
   rw [wL_ok hok]
   have e : R.take R.length = R := List.take_length
   rw [e]
   clear hok hW hC hN
   repeat' (first | (refine Two.mk ?_ ?_ <;> intro _) | refine goA ?_ | refine nxA ?_ | refine Done.ret (.one rA_ (.one rA_ .nil)) (.sh (.sh .nil)) ?_ rfl)
   all_goals first | rfl | (exfalso; simp_all; done) | (exfalso; omega)
 ·rw [if_neg h]
  generalize chkC w E [v] = c at *
  refine cA_ _ Tryz.func36 rfl Tryz.ntmps36 sO_ ?_
  repeat' (first | (refine Two.mk ?_ ?_ <;> intro _) | (guard_target =~ CallN_; first | refine RunU.cons (sC_ (hC) (.sh (.sh .nil)) (.shAgg rfl gA_ (.sh wS_ .nil)) rfl) ?_) | refine goA ?_ | refine nxA ?_ | refine Done.ret (.one rA_ (.one rA_ .nil)) (.sh (.sh .nil)) ?_ rfl)
  all_goals first | rfl | (exfalso; simp_all; done) | (exfalso; omega)
theorem implSW_c (w : List Int) (E : List (List Int)) (v : Int) (hw : w.length ≤ 2000000) (hE : E.length ≤ 2000000) : CallA Tryz.prog 35 [aGr w E, aI v] [rL (swR w E v).1, rI (swR w E v).2] [] := by
 unfold swR
 by_cases h : chkC w E [v] = 0
 ·have hC := checkSplice_ok w E [v] (by simp) h
  rw [if_pos h]
  obtain ⟨hg, hall, hcn⟩ := chk_zero h
  have hv := one_in hall
  have hlen := hg.1
  have hfew := hg.few
  have hnl := near_le hg.2.2.1 v
  have hNl := nbL_len E w.length
  have hNv : (nbL E w.length).getD (v.toNat * 1) [] = near E v := by
   rw [Nat.mul_one, nbL_at E (by omega)]; congr 1; omega
  have hNr : ((nbL E w.length).getD (v.toNat * 1) []).length = (near E v).length := by rw [hNv]
  rw [wL_congr (g := fun u => setI w E (bhL w E v u)) (fun x => by
   obtain ⟨s1, s2⟩ := set_eq hg (bhL w E v x)
   exact ⟨s1.symm, fun h => (s2 (by rw [s1]; exact h)).symm⟩)]
  obtain ⟨f, hf⟩ : ∃ f : Int → Int × Bool, f = fun u => setI w E (bhL w E v u) := ⟨_, rfl⟩
  have hW : ∀ u, u ∈ near E v → CallA Tryz.prog 76 [aSpl w E, aI v, aI u] [rI (f u).1, rB (f u).2] [] := fun u hu => by
   rw [hf]; exact weight_c w E v u hg hcn hv hu
  rw [← hf]
  clear hf hall
  generalize near E v = R at *
  refine cA_ _ Tryz.func35 rfl Tryz.ntmps35 sO_ ?_
  repeat' (first | (refine Two.mk ?_ ?_ <;> intro _) | (guard_target =~ CallN_; first | refine RunU.cons (step_callS (hC) (.sh (.mv vA_ .nil)) (.sh (.agg rfl (by first | exact .nil | exact .cons .nil | exact .cons (.cons .nil) | exact .cons (.cons (.cons .nil)) | exact .cons (.cons (.cons (.cons .nil))) | exact .cons (.cons (.cons (.cons (.cons .nil)))))) (.mv .nil)) rfl) ?_) | refine goA ?_ | refine nxA ?_ | refine Done.ret (.one rA_ (.one rA_ .nil)) (.sh (.sh .nil)) ?_ rfl)
  all_goals try (exfalso; simp_all; done)
  refine WpA.loop_ids2 (fun j i6 i8 => [(1, vGI v), (6, .own 13 (.pt true [.sl false 1 (ints w), .sl false 1 (LLs E), .sl true 1 (LL (nbL E w.length))])), (8, .own i8 (.sl true 1 (ints ((R.take j).map fun x => (f x).1)))), (28, .als 6 13 ([] ++ [2] ++ [v.toNat * 1])), (29, vGI R.length), (30, vGI j)]) (fun j => j ≤ R.length ∧ ∀ i, i < j → (f (R.getD i 0)).2 = true) (fun j => R.length - j) 0 0 _ ⟨by omega, fun i hi => by omega⟩ ⟨rfl, xR_, by exact own_ints (l := []) rfl, xR_, int_eq (by rw [hNr]), rfl, trivial⟩ ?_
  rintro j i6 i8 s nx ⟨hj, hok⟩
  by_cases hlt : j < R.length
  ·have ej : ((nbL E w.length).getD (v.toNat * 1) []).getD (j * 1) 0 = R.getD j 0 := by rw [hNv, Nat.mul_one]
   have hWj := hW (((nbL E w.length).getD (v.toNat * 1) []).getD (j * 1) 0) (by rw [ej]; exact getD_mem hlt)
   have htm := take_map (g := fun x => (f x).1) hlt
   have hml : ((R.take j).map fun x => (f x).1).length = j := by simp; omega
   rw [← ej] at htm
   clear hW hC
   cases hb : (f (((nbL E w.length).getD (v.toNat * 1) []).getD (j * 1) 0)).2 with
   | true =>
    rw [hb] at hWj
    repeat' (first | (refine Two.mk ?_ ?_ <;> intro _) | (guard_target =~ CallN_; first | refine RunU.cons (sC_ (hWj) (.sh (.sh (.sh .nil))) (.shAgg rfl gA_ (.sh wS_ (.sh wS_ .nil))) rfl) ?_) | refine goA ?_ | refine nxA ?_ | refine Done.ret (.one rA_ (.one rA_ .nil)) (.sh (.sh .nil)) ?_ rfl)
    all_goals try (exfalso; simp_all; done)
    all_goals try (exfalso; omega)
    refine ⟨j + 1, ⟨by omega, fun i hi => ?_⟩, ⟨0, _, rfl, rfl, by exact own_ints htm, rfl, rfl, int_eq (by omega), trivial⟩, by omega⟩
    by_cases e : i = j
    ·rw [e, ← ej]; exact hb
    ·exact hok i (by omega)
   | false =>
    rw [hb] at hWj
    rw [wL_bad hlt (by rw [← ej]; exact hb)]
    clear hok
    repeat' (first | (refine Two.mk ?_ ?_ <;> intro _) | (guard_target =~ CallN_; first | refine RunU.cons (sC_ (hWj) (.sh (.sh (.sh .nil))) (.shAgg rfl gA_ (.sh wS_ (.sh wS_ .nil))) rfl) ?_) | refine goA ?_ | refine nxA ?_ | refine Done.ret (.one rA_ (.one rA_ .nil)) (.sh (.sh .nil)) ?_ rfl)
    all_goals first | rfl | (exfalso; simp_all; done) | (exfalso; omega)
  ·have ej : j = R.length := by omega
   subst ej
   rw [wL_ok hok]
   have e : R.take R.length = R := List.take_length
   rw [e]
   clear hok hW hC
   repeat' (first | (refine Two.mk ?_ ?_ <;> intro _) | refine goA ?_ | refine nxA ?_ | refine Done.ret (.one rA_ (.one rA_ .nil)) (.sh (.sh .nil)) ?_ rfl)
   all_goals first | rfl | (exfalso; simp_all; done) | (exfalso; omega)
 ·have hC := checkSplice_bad w E [v] hw hE (by simp) h
  rw [if_neg h]
  generalize chkC w E [v] = c at *
  refine cA_ _ Tryz.func35 rfl Tryz.ntmps35 sO_ ?_
  repeat' (first | (refine Two.mk ?_ ?_ <;> intro _) | (guard_target =~ CallN_; first | refine RunU.cons (step_callS (hC) (.sh (.mv vA_ .nil)) (.sh (.agg rfl (by first | exact .nil | exact .cons .nil | exact .cons (.cons .nil) | exact .cons (.cons (.cons .nil)) | exact .cons (.cons (.cons (.cons .nil))) | exact .cons (.cons (.cons (.cons (.cons .nil)))))) (.mv .nil)) rfl) ?_) | refine goA ?_ | refine nxA ?_ | refine Done.ret (.one rA_ (.one rA_ .nil)) (.sh (.sh .nil)) ?_ rfl)
  all_goals first | rfl | (exfalso; simp_all; done) | (exfalso; omega)
theorem swR_len (w : List Int) (E : List (List Int)) (v : Int) : (swR w E v).1.length ≤ w.length := by
 unfold swR
 split
 ·rename_i h
  obtain ⟨hg, _, _⟩ := chk_zero h
  exact Nat.le_trans (wL_len _ _) (near_le hg.2.2.1 v)
 ·simp
instance fnOk69 : FnOk Tryz.prog 69 := ⟨_, Tryz.func69, rfl, by decide⟩
instance fnOk79 : FnOk Tryz.prog 79 := ⟨_, Tryz.func79, rfl, by decide⟩
end Go.Proofs.YtmgmpnhlehonmaaGreat
