/- Minimal graphs (plain). No condition. -/
import Derived.Test.YtneomlnhlpkbjaaGreatMGrP
import Derived.Test.YtneomlnhlpkbjaaGreatMGrU
import Derived.Test.YtneomlnhlpkbjaaGreatMGdA
set_option linter.unusedVariables false
set_option linter.unusedSimpArgs false
namespace Go.Proofs.YtneomlnhlpkbjaaGreat
def Pr2 (e : List Int) : Prop := ∃ a b : Int, e = [a, b]
abbrev ltE (e f : List Int) : Prop := lexC e f < 0
theorem ltE_trans {e f g : List Int} (he : Pr2 e) (hf : Pr2 f) (hg : Pr2 g) (h1 : ltE e f) (h2 : ltE f g) : ltE e g := by
  obtain ⟨a, b, rfl⟩ := he; obtain ⟨c, d, rfl⟩ := hf; obtain ⟨x, y, rfl⟩ := hg
  unfold ltE at *
  rw [lex_two] at *
  omega
theorem ltE_total {e f : List Int} (he : Pr2 e) (hf : Pr2 f) (h : ¬ ltE e f) (hne : e ≠ f) : ltE f e := by
  obtain ⟨a, b, rfl⟩ := he; obtain ⟨c, d, rfl⟩ := hf
  unfold ltE at *
  rw [lex_two] at *
  by_cases h1 : a = c
  · subst h1
    by_cases h2 : b = d
    · subst h2; exact absurd rfl hne
    · omega
  · omega
theorem ltE_irr {e : List Int} (he : Pr2 e) : ¬ ltE e e := by
  obtain ⟨a, b, rfl⟩ := he
  unfold ltE
  rw [lex_two]
  omega
theorem insL_sorted {r : List Int} {O : List (List Int)} (hr : Pr2 r) (hO : ∀ e ∈ O, Pr2 e) (hs : O.Pairwise ltE) (hno : r ∉ O) : (insL r O).Pairwise ltE := by
  unfold insL
  have hl := atLx_low r O
  have hle := atLx_le r O
  have hn := atLx_not r O
  generalize atLx r O = k at *
  rw [List.pairwise_append]
  refine ⟨hs.sublist (List.take_sublist _ _), ?_, ?_⟩
  · rw [List.pairwise_cons]
    refine ⟨fun e he => ?_, hs.sublist (List.drop_sublist _ _)⟩
    obtain ⟨i, hi, rfl⟩ := List.getElem_of_mem he
    rw [List.length_drop] at hi
    rw [List.getElem_drop]
    have hk : k < O.length := by omega
    have h1 := hn hk
    have h2 : O.getD k [] = O[k] := by simp [List.getD, hk]
    rw [h2] at h1
    have h3 : ltE r O[k] := ltE_total (hO _ (List.getElem_mem hk)) hr h1 fun e => hno (e ▸ List.getElem_mem hk)
    by_cases e : i = 0
    · subst e; exact h3
    · exact ltE_trans hr (hO _ (List.getElem_mem hk)) (hO _ (List.getElem_mem _)) h3 (List.pairwise_iff_getElem.1 hs k (k + i) hk (by omega) (by omega))
  · intro e he f hf
    obtain ⟨i, hi, rfl⟩ := List.getElem_of_mem he
    rw [List.length_take] at hi
    have h1 := hl i (by omega)
    have h2 : O.getD i [] = O[i] := by simp [List.getD, show i < O.length by omega]
    rw [h2] at h1
    rw [List.getElem_take]
    rcases List.mem_cons.1 hf with rfl | hf
    · exact h1
    · obtain ⟨m, hm, rfl⟩ := List.getElem_of_mem hf
      rw [List.length_drop] at hm
      rw [List.getElem_drop]
      exact List.pairwise_iff_getElem.1 hs i (k + m) (by omega) (by omega) (by omega)
theorem srtL_sorted {E : List (List Int)} (hE : ∀ e ∈ E, Pr2 e) (hn : E.Nodup) : ∀ j, j ≤ E.length → (srtL E j).Pairwise ltE
  | 0, _ => by simp [srtL]
  | j + 1, hj => by
    have hp := srtL_perm (E := E) j (by omega)
    have e : E.getD j [] = E[j] := by simp [List.getD, show j < E.length by omega]
    rw [srtL, e]
    refine insL_sorted (hE _ (List.getElem_mem _)) (fun f hf => hE f (List.mem_of_mem_take (hp.mem_iff.1 hf))) (srtL_sorted hE hn j (by omega)) fun q => ?_
    have := hp.mem_iff.1 q
    obtain ⟨i, hi, he⟩ := List.getElem_of_mem this
    rw [List.length_take] at hi
    rw [List.getElem_take] at he
    exact (List.pairwise_iff_getElem.1 (List.nodup_iff_pairwise_ne.1 hn) i j (by omega) (by omega) (by omega)) he
theorem srtd_eq {E F : List (List Int)} (hE : ∀ e ∈ E, Pr2 e) (h1 : E.Pairwise ltE) (h2 : F.Pairwise ltE) (hp : E.Perm F) : E = F :=
  List.Perm.eq_of_pairwise (fun a b ha hb q1 q2 => absurd (ltE_trans (hE a ha) (hE b (hp.mem_iff.2 hb)) (hE a ha) q1 q2) (ltE_irr (hE a ha))) h1 h2 hp
theorem good_pr2 {n : Nat} {E : List (List Int)} (hg : GoodE n E) : ∀ e ∈ E, Pr2 e := fun e he => by
  obtain ⟨j, hj, h, _⟩ := hg.mem he
  exact ⟨_, _, h⟩
theorem good_sorted {n : Nat} {E : List (List Int)} (hg : GoodE n E) : E.Pairwise ltE := by
  rw [List.pairwise_iff_getElem]
  intro i j hi hj hij
  have h := edges_lt hg j hj i hij
  have e1 := (hg i hi).edge hi
  have e2 := (hg j hj).edge hj
  rw [List.getElem?_eq_getElem hi, Option.some.injEq] at e1
  rw [List.getElem?_eq_getElem hj, Option.some.injEq] at e2
  rw [e1, e2]
  unfold ltE
  rw [lex_two]
  exact h
theorem good_nodup {n : Nat} {E : List (List Int)} (hg : GoodE n E) : E.Nodup := by
  rw [List.nodup_iff_pairwise_ne]
  have hp := good_pr2 hg
  refine (good_sorted hg).imp_of_mem fun {a b} ha hb h e => ?_
  subst e
  exact ltE_irr (hp _ ha) h
def incW (w : List Int) (l : List Int) : Nat → List Int
  | 0 => w
  | j + 1 => (incW w l j).set (l.getD j 0).toNat ((incW w l j).getD (l.getD j 0).toNat 0 + 1)
theorem incW_len (w l : List Int) : ∀ j, (incW w l j).length = w.length
  | 0 => rfl
  | j + 1 => by rw [incW, List.length_set, incW_len w l j]
theorem incW_at {w l : List Int} (hl : ∀ x ∈ l, 0 ≤ x ∧ x < w.length) (hn : l.Nodup) : ∀ j, j ≤ l.length → ∀ i : Nat, (incW w l j).getD i 0 = w.getD i 0 + if (i : Int) ∈ l.take j then 1 else 0
  | 0, _, i => by simp [incW]
  | j + 1, hj, i => by
    have ih := incW_at hl hn j (by omega)
    have hx := hl l[j] (List.getElem_mem _)
    have e : l.getD j 0 = l[j] := by simp [List.getD, show j < l.length by omega]
    rw [incW, e, getD_setI (by rw [incW_len]; omega), ih, ih, List.take_add_one, List.getElem?_eq_getElem (show j < l.length by omega)]
    simp only [Option.toList_some, List.mem_append, List.mem_singleton]
    by_cases h : l[j].toNat = i
    · have h2 : (i : Int) = l[j] := by omega
      have hno : l[j] ∉ l.take j := fun q => by
        obtain ⟨m, hm, he⟩ := List.getElem_of_mem q
        rw [List.length_take] at hm
        rw [List.getElem_take] at he
        exact (List.pairwise_iff_getElem.1 (List.nodup_iff_pairwise_ne.1 hn) m j (by omega) (by omega) (by omega)) he
      rw [if_pos h, show ((l[j].toNat : Nat) : Int) = l[j] by omega, if_neg hno, if_pos (show (i : Int) ∈ l.take j ∨ (i : Int) = l[j] from .inr h2), h]
      omega
    · rw [if_neg h]
      by_cases h2 : (i : Int) ∈ l.take j
      · rw [if_pos h2, if_pos (.inl h2)]
      · rw [if_neg h2, if_neg (by rintro (q | q); exact h2 q; omega)]
def dcI (v x : Int) : Int := if x > v then x - 1 else x
def dcE (v : Int) (e : List Int) : List Int := [dcI v (e0 e), dcI v (e1 e)]
def noV (v : Int) (e : List Int) : Bool := !(decide (e0 e = v) || decide (e1 e = v))
def midE (E : List (List Int)) (v : Int) : List (List Int) := E.filter (noV v) ++ if (near E v).length = 2 then [near E v] else []
def cnX (E : List (List Int)) (v : Int) : List (List Int) := (midE E v).map (dcE v)
def cnE (E : List (List Int)) (v : Int) : List (List Int) := srtL (cnX E v) (cnX E v).length
def cnI (w : List Int) (E : List (List Int)) (v : Int) : List Int := incW w (near E v) (near E v).length
def cnW (w : List Int) (E : List (List Int)) (v : Int) : List Int := (cnI w E v).eraseIdx v.toNat
def CanC (w : List Int) (E : List (List Int)) (v : Int) : Prop := 1 < w.length ∧ w.getD v.toNat 0 = -1 ∧ (near E v).length ≤ 2
instance (w : List Int) (E : List (List Int)) (v : Int) : Decidable (CanC w E v) := by unfold CanC; infer_instance
theorem cnW_len {w : List Int} {E : List (List Int)} {v : Int} (hv : 0 ≤ v ∧ v < w.length) : (cnW w E v).length + 1 = w.length := by
  unfold cnW cnI
  rw [List.length_eraseIdx, incW_len, if_pos (by omega)]
  omega
theorem eraseIdx_getD (l : List Int) (k i : Nat) : (l.eraseIdx k).getD i 0 = if i < k then l.getD i 0 else l.getD (i + 1) 0 := by
  simp only [List.getD_eq_getElem?_getD, List.getElem?_eraseIdx]
  split <;> rfl
theorem cnI_at {w : List Int} {E : List (List Int)} (hg : IsGr w E) (v : Int) (i : Nat) : (cnI w E v).getD i 0 = w.getD i 0 + if (i : Int) ∈ near E v then 1 else 0 := by
  unfold cnI
  rw [incW_at (fun x hx => near_in hg.2.2.1 hx) (near_nodup hg.2.2.1 v) _ (Nat.le_refl _), List.take_length]
theorem cnW_at {w : List Int} {E : List (List Int)} (hg : IsGr w E) {v : Int} (hv : 0 ≤ v ∧ v < w.length) {x : Int} (hx : 0 ≤ x ∧ x ≠ v) : (cnW w E v).getD (dcI v x).toNat 0 = w.getD x.toNat 0 + if x ∈ near E v then 1 else 0 := by
  unfold cnW dcI
  rw [eraseIdx_getD]
  by_cases h : x > v
  · rw [if_pos h, if_neg (by omega), show (x - 1).toNat + 1 = x.toNat by omega, cnI_at hg, show ((x.toNat : Nat) : Int) = x by omega]
  · rw [if_neg h, if_pos (by omega), cnI_at hg, show ((x.toNat : Nat) : Int) = x by omega]
theorem dcI_inj {v x y : Int} (hx : x ≠ v) (hy : y ≠ v) (h : dcI v x = dcI v y) : x = y := by
  unfold dcI at h
  split at h <;> split at h <;> omega
theorem dcI_in {n : Nat} {v x : Int} (hv : 0 ≤ v ∧ v < n) (hx : 0 ≤ x ∧ x < n) (h : x ≠ v) : 0 ≤ dcI v x ∧ dcI v x < (n - 1 : Nat) := by
  unfold dcI
  split <;> omega
theorem dcI_lt {v x y : Int} (hx : x ≠ v) (hy : y ≠ v) (h : x < y) : dcI v x < dcI v y := by
  unfold dcI
  split <;> split <;> omega
def upI (v y : Int) : Int := if y ≥ v then y + 1 else y
theorem dc_up {v y : Int} : dcI v (upI v y) = y := by
  unfold upI dcI
  split <;> split <;> omega
theorem up_ne {v y : Int} : upI v y ≠ v := by
  unfold upI
  split <;> omega
theorem noV_iff {v : Int} {e : List Int} : noV v e = true ↔ e0 e ≠ v ∧ e1 e ≠ v := by simp [noV]
theorem midE_mem {w : List Int} {E : List (List Int)} (hg : IsGr w E) {v : Int} {e : List Int} (h : e ∈ midE E v) : ∃ a b : Int, e = [a, b] ∧ (0 ≤ a ∧ a < b ∧ b < w.length) ∧ a ≠ v ∧ b ≠ v := by
  unfold midE at h
  rcases List.mem_append.1 h with h | h
  · rw [List.mem_filter, noV_iff] at h
    obtain ⟨j, hj, he, k1, k2, k3⟩ := hg.2.2.1.mem h.1
    rw [he] at h
    exact ⟨_, _, he, ⟨k1, k2, k3⟩, h.2.1, h.2.2⟩
  · split at h
    · rename_i hl
      rw [List.mem_singleton] at h
      have hs := near_sorted hg.2.2.1 v
      have hin := fun x => near_in hg.2.2.1 (v := v) (x := x)
      have hne : ∀ x ∈ near E v, x ≠ v := fun x hx => ((hg.2.2.1.adj ((near_mem hg.2.2.1).1 hx)).2.2).symm
      rw [h]
      match hnr : near E v, hl with
      | [a, b], _ =>
        rw [hnr] at hs hin hne
        have h1 := hin a (by simp)
        have h2 := hin b (by simp)
        have h3 : a < b := by simpa using hs
        exact ⟨a, b, rfl, ⟨h1.1, h3, h2.2⟩, hne a (by simp), hne b (by simp)⟩
    · simp at h
theorem cnX_mem {w : List Int} {E : List (List Int)} (hg : IsGr w E) {v : Int} (hv : 0 ≤ v ∧ v < w.length) {e : List Int} (h : e ∈ cnX E v) : ∃ a b : Int, e = [a, b] ∧ 0 ≤ a ∧ a < b ∧ b < (w.length - 1 : Nat) := by
  obtain ⟨f, hf, rfl⟩ := List.mem_map.1 h
  obtain ⟨a, b, rfl, ⟨h1, h2, h3⟩, h4, h5⟩ := midE_mem hg hf
  exact ⟨_, _, rfl, (dcI_in hv ⟨h1, by omega⟩ h4).1, dcI_lt h4 h5 h2, (dcI_in hv ⟨by omega, h3⟩ h5).2⟩
theorem near_two {w : List Int} {E : List (List Int)} (hg : IsGr w E) {v a b : Int} (h : near E v = [a, b]) : ¬ Adj E a b := fun q => by
  have ha := (near_mem hg.2.2.1).1 (show a ∈ near E v by rw [h]; simp)
  have hb := (near_mem hg.2.2.1).1 (show b ∈ near E v by rw [h]; simp)
  have hab := (hg.2.2.1.adj q).2.2
  have hav := (hg.2.2.1.adj ha).2.2
  have hbv := (hg.2.2.1.adj hb).2.2
  have hn : NB E [v, a, b, v] := ⟨ha, fun e => hbv e, q, fun e => hav e.symm, hb.symm⟩
  have := hg.forest _ hn
  simp at this
theorem midE_nodup {w : List Int} {E : List (List Int)} (hg : IsGr w E) (v : Int) : (midE E v).Nodup := by
  unfold midE
  rw [List.nodup_append]
  refine ⟨(good_nodup hg.2.2.1).filter _, by split <;> simp, fun e he f hf q => ?_⟩
  subst q
  split at hf
  · rename_i hl
    rw [List.mem_singleton] at hf
    match hnr : near E v, hl with
    | [a, b], _ =>
      rw [hnr] at hf
      exact near_two hg hnr (.inl (hf ▸ (List.mem_filter.1 he).1))
  · simp at hf
theorem cnX_nodup {w : List Int} {E : List (List Int)} (hg : IsGr w E) (v : Int) : (cnX E v).Nodup := by
  unfold cnX
  rw [List.nodup_iff_pairwise_ne, List.pairwise_map]
  refine (List.nodup_iff_pairwise_ne.1 (midE_nodup hg v)).imp_of_mem fun {e f} he hf hne q => hne ?_
  obtain ⟨a, b, rfl, _, h1, h2⟩ := midE_mem hg he
  obtain ⟨c, d, rfl, _, h3, h4⟩ := midE_mem hg hf
  simp only [dcE, e0, e1, List.getD_cons_zero, List.getD_cons_succ, List.cons.injEq, and_true] at q
  rw [dcI_inj h1 h3 q.1, dcI_inj h2 h4 q.2]
def spc (E : List (List Int)) (v x y : Int) : Prop := near E v = [upI v x, upI v y] ∨ near E v = [upI v y, upI v x]
instance (E : List (List Int)) (v x y : Int) : Decidable (spc E v x y) := by unfold spc; infer_instance
theorem Dm_noV (a : Int → Int) {n : Nat} {E : List (List Int)} (hg : GoodE n E) {v : Int} {U : List Int} (hU : v ∉ U) : Dm a (E.filter (noV v)) U = Dm a E U :=
  Dm_filter a (noV v) E U fun e he hn q => by
    simp only [noV, Bool.not_eq_false', Bool.or_eq_true, decide_eq_true_eq] at hn
    rcases hn with h | h
    · exact hU (h ▸ q.1)
    · exact hU (h ▸ q.2)
theorem cn_det {w : List Int} {E : List (List Int)} (hg : IsGr w E) {v : Int} (hv : 0 ≤ v ∧ v < w.length) (hc : CanC w E v) : Dm (awt (cnW w E v)) (cnE E v) (iota (cnW w E v).length) = Dm (awt w) E (iota w.length) := by
  have hl := cnW_len (E := E) hv
  obtain ⟨hc1, hc2, hc3⟩ := hc
  have hnl : NoLoop (E.filter (noV v)) := fun e he => noLoop hg.2.2.1 e (List.mem_filter.1 he).1
  -- the vertices, as they were
  have hV0 : ∀ x, x ∈ wo (iota w.length) v ↔ (0 ≤ x ∧ x < w.length) ∧ x ≠ v := fun x => by rw [wo_mem, iota_mem]
  have hVn : (wo (iota w.length) v).Nodup := wo_nodup (iota_nodup _) _
  have hperm : (iota (cnW w E v).length).Perm ((wo (iota w.length) v).map (dcI v)) := by
    rw [List.perm_ext_iff_of_nodup (iota_nodup _)]
    · intro y
      rw [iota_mem, List.mem_map]
      constructor
      · intro hy
        refine ⟨upI v y, (hV0 _).2 ⟨?_, up_ne⟩, dc_up⟩
        unfold upI
        split <;> omega
      · rintro ⟨x, hx, rfl⟩
        have h := (hV0 x).1 hx
        have := dcI_in hv h.1 h.2
        omega
    · rw [List.nodup_iff_pairwise_ne, List.pairwise_map]
      refine (List.nodup_iff_pairwise_ne.1 hVn).imp_of_mem fun {x y} hx hy hne q => hne (dcI_inj ((hV0 _).1 hx).2 ((hV0 _).1 hy).2 q)
  -- the numbers
  have hmap := Dm_map (awt (cnW w E v)) (φ := dcI v) (S := wo (iota w.length) v) (fun x hx y hy q => dcI_inj ((hV0 _).1 hx).2 ((hV0 _).1 hy).2 q) (midE E v) (wo (iota w.length) v) (fun x hx => hx) (fun e he => by
    obtain ⟨a, b, rfl, h1, h2, h3⟩ := midE_mem hg he
    have ha : a < w.length := by omega
    have hb : 0 ≤ b := by omega
    exact ⟨(hV0 a).2 ⟨⟨h1.1, ha⟩, h2⟩, (hV0 b).2 ⟨⟨hb, h1.2.2⟩, h3⟩⟩)
  have hX : (midE E v).map (fun e => [dcI v (e0 e), dcI v (e1 e)]) = cnX E v := rfl
  rw [hX] at hmap
  have ha1 : ∀ x ∈ wo (iota w.length) v, awt (cnW w E v) (dcI v x) = awt w x - if x ∈ near E v then 1 else 0 := fun x hx => by
    have h := (hV0 _).1 hx
    unfold awt
    rw [cnW_at hg hv ⟨h.1.1, h.2⟩]
    omega
  rw [show cnE E v = srtL (cnX E v) (cnX E v).length from rfl, Dm_permE _ (srtL_all _), Dm_permV _ _ hperm, hmap, Dm_congr (b := fun x => awt w x - if x ∈ near E v then 1 else 0) _ ha1]
  -- developed at the vertex
  have hvm : v ∈ iota w.length := iota_mem.2 hv
  have hav : awt w v = 1 := by unfold awt; rw [hc2]; rfl
  have hin : ∀ x ∈ near E v, x ∈ wo (iota w.length) v := fun x hx => (hV0 _).2 ⟨near_in hg.2.2.1 hx, ((hg.2.2.1.adj ((near_mem hg.2.2.1).1 hx)).2.2).symm⟩
  have hvv : v ∉ wo (iota w.length) v := fun q => (wo_mem.1 q).2 rfl
  rw [Dm_near (awt w) hg.2.2.1 (iota_nodup _) hvm, hav, Int.one_mul, smL_congr (g := fun j => Dm (awt w) (E.filter (noV v)) (wo (wo (iota w.length) v) j)) (fun j hj => by
    rw [if_pos (wo_mem.1 (hin j hj)).1, Dm_noV _ hg.2.2.1 fun q => hvv (wo_mem.1 q).1]), ← Dm_noV (awt w) hg.2.2.1 hvv]
  generalize hF : E.filter (noV v) = F at *
  have hmid : midE E v = F ++ if (near E v).length = 2 then [near E v] else [] := by unfold midE; rw [hF]
  have hnn := near_nodup hg.2.2.1 v
  rw [hmid]
  generalize wo (iota w.length) v = V at *
  match hnr : near E v, hc3 with
  | [], _ =>
    rw [if_neg (by simp), List.append_nil, smL, Int.sub_zero]
    exact Dm_congr F fun x _ => by simp
  | [i], _ =>
    rw [hnr] at hin
    have hi := hin i (by simp)
    rw [if_neg (by simp), List.append_nil, smL, smL, Int.add_zero]
    have h1 := Dm_raise (a := fun x => awt w x - if x ∈ [i] then 1 else 0) (b := awt w) hnl hVn hi (by simp) (fun x _ hx => by simp [hx])
    have h2 : Dm (awt w) F (wo V i) = Dm (fun x => awt w x - if x ∈ [i] then 1 else 0) F (wo V i) := Dm_congr F fun x hx => by simp [(wo_mem.1 hx).2]
    omega
  | [i, k], _ =>
    rw [hnr] at hin hnn
    have hi := hin i (by simp)
    have hk := hin k (by simp)
    have hik : i ≠ k := by simp at hnn; exact hnn
    rw [if_pos (by simp), Dm_permE _ (show (F ++ [[i, k]]).Perm ([i, k] :: F) from List.perm_append_singleton _ _), Dm, smL, smL, smL, Int.add_zero]
    rw [if_pos (show e0 [i, k] ∈ V ∧ e1 [i, k] ∈ V from ⟨hi, hk⟩)]
    show _ - Dm _ F (wo (wo V i) k) = _
    have h1 := Dm_raise (a := fun x => awt w x - if x = k then 1 else 0) (b := awt w) hnl hVn hk (by simp) (fun x _ hx => by simp [hx])
    have h2 := Dm_raise (a := fun x => awt w x - if x ∈ [i, k] then 1 else 0) (b := fun x => awt w x - if x = k then 1 else 0) hnl hVn hi (by simp [hik]) (fun x _ hx => by simp [hx])
    have h3 := Dm_raise (a := fun x => awt w x - if x ∈ [i, k] then 1 else 0) (b := fun x => awt w x - if x = k then 1 else 0) hnl (wo_nodup hVn k) (wo_mem.2 ⟨hi, hik⟩) (by simp [hik]) (fun x _ hx => by simp [hx])
    have h4 : Dm (awt w) F (wo V k) = Dm (fun x => awt w x - if x = k then 1 else 0) F (wo V k) := Dm_congr F fun x hx => by simp [(wo_mem.1 hx).2]
    have h5 := Dm_raise (a := fun x => awt w x - if x = k then 1 else 0) (b := awt w) hnl (wo_nodup hVn i) (wo_mem.2 ⟨hk, fun q => hik q.symm⟩) (by simp) (fun x _ hx => by simp [hx])
    have h6 : Dm (fun x => awt w x - if x = k then 1 else 0) F (wo V i) = Dm (fun x => awt w x - if x ∈ [i, k] then 1 else 0) F (wo V i) := Dm_congr F fun x hx => by simp [(wo_mem.1 hx).2]
    have h7 : Dm (fun x => awt w x - if x = k then 1 else 0) F (wo (wo V i) k) = Dm (fun x => awt w x - if x ∈ [i, k] then 1 else 0) F (wo (wo V i) k) := Dm_congr F fun x hx => by simp [(wo_mem.1 hx).2, (wo_mem.1 (wo_mem.1 hx).1).2]
    rw [wo_comm V k i] at h3
    omega
end Go.Proofs.YtneomlnhlpkbjaaGreat
namespace Go.Proofs.YtneomlnhlpkbjaaGreat
def FitC (w : List Int) (E : List (List Int)) (v : Int) : Prop := ∀ x ∈ near E v, w.getD x.toNat 0 + 1 ≤ 1000
instance (w : List Int) (E : List (List Int)) (v : Int) : Decidable (FitC w E v) := by unfold FitC; infer_instance
def fcF (w : List Int) (E : List (List Int)) : Nat → Nat → Int
  | 0, _ => -1
  | k + 1, j => if CanC w E j then j else fcF w E k (j + 1)
def fcI (w : List Int) (E : List (List Int)) : Int := fcF w E w.length 0
def mgF : Nat → List Int → List (List Int) → Option (List Int × List (List Int))
  | 0, _, _ => none
  | k + 1, w, E => if fcI w E < 0 then some (w, E) else if FitC w E (fcI w E) then mgF k (cnW w E (fcI w E)) (cnE E (fcI w E)) else none
def mgO (w : List Int) (E : List (List Int)) : Option (List Int × List (List Int)) := mgF (w.length + 1) w E
end Go.Proofs.YtneomlnhlpkbjaaGreat
