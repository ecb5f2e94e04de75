/- What lies behind a vertex: the program's marks and the reference's paths tell the same. No condition. -/
import Derived.Test.YthfdelcopmmblaaRHaB
namespace Go.Proofs.Ythfdelcopmmblaa
set_option linter.unusedVariables false
set_option linter.unusedSimpArgs false
def mrk (E : List (List Int)) : Nat → List Bool → Int → Int → List Bool
  | 0, K, _, _ => K
  | m + 1, K, i, u => (near E i).foldl (fun K c => if c = u then K else mrk E m K c i) (K.set i.toNat true)
theorem mrkF_len {f : List Bool → Int → List Bool} (hf : ∀ K c, (f K c).length = K.length) {u : Int} : ∀ (l : List Int) (K : List Bool), (l.foldl (fun K c => if c = u then K else f K c) K).length = K.length
  | [], _ => rfl
  | c :: l, K => by
    rw [List.foldl_cons, mrkF_len hf l]
    split
    · rfl
    · exact hf K c
theorem mrk_len (E : List (List Int)) : ∀ (m : Nat) (K : List Bool) (i u : Int), (mrk E m K i u).length = K.length
  | 0, _, _, _ => rfl
  | m + 1, K, i, u => by
    rw [mrk, mrkF_len (f := fun K c => mrk E m K c i) (fun K c => mrk_len E m K c i), List.length_set]
theorem kp_set {K : List Bool} {a x : Nat} (ha : a < K.length) : kp (K.set a true) x = true ↔ kp K x = true ∨ x = a := by
  unfold kp
  simp only [List.getD_eq_getElem?_getD, List.getElem?_set]
  by_cases e : a = x
  · subst e; simp [ha]
  · rw [if_neg e]
    constructor
    · exact .inl
    · rintro (h | h)
      · exact h
      · exact absurd h.symm e
theorem mrk_law {w : List Int} {E : List (List Int)} (hg : IsGr w E) : ∀ (m : Nat) (i : Int) (t : List Int) (K : List Bool), NB E (i :: t) → (0 ≤ i ∧ i < w.length) → w.length < t.length + 1 + m → K.length = w.length →
    ∀ x : Nat, kp (mrk E m K i (t.headD (-1))) x = true ↔ kp K x = true ∨ ∃ z, Bw E i t x z
  | 0, i, t, K, h, hi, hm, _, _ => by have := h.len hg hi; omega
  | m + 1, i, t, K, h, hi, hm, hK, x => by
    have fold : ∀ (l : List Int), (∀ c ∈ l, c ∈ near E i) → ∀ K : List Bool, K.length = w.length →
        (kp (l.foldl (fun K c => if c = t.headD (-1) then K else mrk E m K c i) K) x = true ↔ kp K x = true ∨ ∃ c, c ∈ l ∧ c ≠ t.headD (-1) ∧ ∃ z, Bw E c (i :: t) x z) := by
      intro l
      induction l with
      | nil => intro _ K _; simp
      | cons c l ih =>
        intro hl K hK
        rw [List.foldl_cons]
        by_cases e : c = t.headD (-1)
        · rw [if_pos e, ih (fun c hc => hl c (by simp [hc])) K hK]
          constructor
          · rintro (h1 | ⟨c', h1, h2⟩)
            · exact .inl h1
            · exact .inr ⟨c', by simp [h1], h2⟩
          · rintro (h1 | ⟨c', h1, h2, h3⟩)
            · exact .inl h1
            · rcases List.mem_cons.1 h1 with rfl | h1
              · exact absurd e h2
              · exact .inr ⟨c', h1, h2, h3⟩
        · have hc : c ∈ kids E i (t.headD (-1)) := by simp only [kids, List.mem_filter, decide_eq_true_eq]; exact ⟨hl c (by simp), e⟩
          have hrec := mrk_law hg m c (i :: t) K (kid_nb hg.2.2.1 h hc) (kid_in hg.2.2.1 hc) (by simp only [List.length_cons]; omega) hK x
          rw [List.headD_cons] at hrec
          rw [if_neg e, ih (fun c hc => hl c (by simp [hc])) _ (by rw [mrk_len]; exact hK), hrec]
          constructor
          · rintro ((h1 | h1) | ⟨c', h1, h2⟩)
            · exact .inl h1
            · exact .inr ⟨c, by simp, e, h1⟩
            · exact .inr ⟨c', by simp [h1], h2⟩
          · rintro (h1 | ⟨c', h1, h2, h3⟩)
            · exact .inl (.inl h1)
            · rcases List.mem_cons.1 h1 with rfl | h1
              · exact .inl (.inr h3)
              · exact .inr ⟨c', h1, h2, h3⟩
    rw [mrk, fold (near E i) (fun _ h => h) _ (by rw [List.length_set]; exact hK), kp_set (by omega)]
    constructor
    · rintro ((h1 | h1) | ⟨c, h1, h2, z, h3⟩)
      · exact .inl h1
      · have e : (x : Int) = i := by omega
        exact .inr ⟨_, by rw [e]; exact Bw.self h⟩
      · exact .inr ⟨z, h3.kid⟩
    · rintro (h1 | ⟨z, h1⟩)
      · exact .inl (.inl h1)
      · rcases h1.cases hg.2.2.1 with ⟨e, _⟩ | ⟨c, hc, h2⟩
        · exact .inl (.inr (by omega))
        · simp only [kids, List.mem_filter, decide_eq_true_eq] at hc
          exact .inr ⟨c, hc.1, hc.2, z, h2⟩
def lastB (P : List Int) : Int := P.getD (P.length - 2) 0
theorem lastB_app (p : List Int) (c v : Int) : lastB (p ++ [c, v]) = c := by
  unfold lastB
  simp [List.getD_eq_getElem?_getD]
theorem bw_iff {w : List Int} {E : List (List Int)} (hg : IsGr w E) (he : E.length + 1 = w.length) {u v x : Int} (hv : 0 ≤ v ∧ v < w.length) (hx : 0 ≤ x ∧ x < w.length) :
    (∃ z, Bw E u [v] x z) ↔ x ≠ v ∧ lastB (pth w E x v) = u := by
  constructor
  · rintro ⟨z, hb⟩
    have hoff := hb.off hg.forest
    obtain ⟨l, p, h1, h2, h3⟩ := hb
    have e := pth_some hg hx (k := v) (q := p ++ [u]) h1 (by rw [h2]; simp)
    refine ⟨hoff.1, ?_⟩
    rw [e, h2]
    exact lastB_app p u v
  · rintro ⟨h1, h2⟩
    obtain ⟨z, hz⟩ := bw_conn hg he hx hv
    obtain ⟨l, q, k1, k2, k3⟩ := pth_bw hg hx hz
    rcases List.eq_nil_or_concat q with rfl | ⟨p, c, rfl⟩
    · obtain ⟨e, _⟩ := List.cons.inj k2
      exact absurd e h1
    · have k4 : x :: l = p ++ [c, v] := by rw [k2]; simp
      rw [k3, k4, lastB_app] at h2
      subst h2
      exact ⟨_, l, p, k1, k4, rfl⟩
def bhL (w : List Int) (E : List (List Int)) (v u : Int) : List Bool := (List.range w.length).map fun x : Nat => decide ((x : Int) ≠ v) && decide (lastB (pth w E x v) = u)
theorem bhL_len (w : List Int) (E : List (List Int)) (v u : Int) : (bhL w E v u).length = w.length := by simp [bhL]
theorem bhL_at {w : List Int} {E : List (List Int)} {v u : Int} {x : Nat} (h : x < w.length) : (bhL w E v u).getD x false = (decide ((x : Int) ≠ v) && decide (lastB (pth w E x v) = u)) := by simp [bhL, List.getD, h]
theorem mrk_bhL {w : List Int} {E : List (List Int)} (hg : IsGr w E) (he : E.length + 1 = w.length) {v u : Int} (hv : 0 ≤ v ∧ v < w.length) (hu : u ∈ near E v) : mrk E w.length (List.replicate w.length false) u v = bhL w E v u := by
  have hur := near_in hg.2.2.1 hu
  have hnb : NB E [u, v] := kid_nb (t := []) hg.2.2.1 trivial (by
    simp only [kids, List.mem_filter, List.headD_nil]
    exact ⟨hu, decide_eq_true (show u ≠ -1 by omega)⟩)
  refine ext_B (by rw [mrk_len, bhL_len]; simp) fun x hx => ?_
  rw [mrk_len, List.length_replicate] at hx
  rw [bhL_at hx]
  have h := mrk_law hg w.length u [v] (List.replicate w.length false) hnb hur (by simp) (by simp) x
  rw [bw_iff hg he hv (by omega), List.headD_cons] at h
  have h0 : kp (List.replicate w.length false) x = false := by unfold kp; simp [List.getD_eq_getElem?_getD, List.getElem?_replicate, hx]
  rw [h0] at h
  unfold kp at h
  rw [Bool.eq_iff_iff, h]
  simp
theorem fill_set {L : List Bool} {n j : Nat} (hl : L.length = n) (hj : j < n) : (L.take j ++ List.replicate (n - j) false).set j (L.getD j false) = L.take (j + 1) ++ List.replicate (n - (j + 1)) false := by
  refine ext_B (by simp [hl]; omega) fun k hk => ?_
  rw [List.length_set, List.length_append, List.length_take, List.length_replicate, hl] at hk
  have hat : ∀ m, m ≤ n → (L.take m ++ List.replicate (n - m) false).getD k false = if k < m then L.getD k false else false := fun m hm => by
    have hk2 : k < n := by omega
    simp only [List.getD_eq_getElem?_getD]
    rw [List.getElem?_append, List.length_take, hl]
    by_cases h : k < m
    · rw [if_pos (by omega), if_pos h, List.getElem?_take_of_lt h]
    · rw [if_neg (by omega), if_neg h, List.getElem?_replicate]
      split <;> rfl
  have e1 : ((L.take j ++ List.replicate (n - j) false).set j (L.getD j false)).getD k false = if j = k then L.getD j false else (L.take j ++ List.replicate (n - j) false).getD k false := by
    rw [List.getD_eq_getElem?_getD, List.getElem?_set]
    split
    · rename_i e; subst e
      rw [if_pos (by simp [hl]; omega)]; rfl
    · rw [List.getD_eq_getElem?_getD]
  rw [e1, hat j (by omega), hat (j + 1) (by omega)]
  by_cases h1 : j = k
  · subst h1; rw [if_pos rfl, if_pos (by omega)]
  · rw [if_neg h1]
    by_cases h2 : k < j
    · rw [if_pos h2, if_pos (by omega)]
    · rw [if_neg h2, if_neg (by omega)]
end Go.Proofs.Ythfdelcopmmblaa
