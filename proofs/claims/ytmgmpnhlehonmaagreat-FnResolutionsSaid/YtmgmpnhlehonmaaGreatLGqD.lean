/- F and G of all vertices by the reference. No condition. -/
import Derived.Test.YtmgmpnhlehonmaaGreatLGrI
import Derived.Test.YtmgmpnhlehonmaaGreatLGqB
import Derived.Test.YtmgmpnhlehonmaaGreatLPwM
import Derived.Test.YtmgmpnhlehonmaaGreatLGrD
import Derived.Test.YtmgmpnhlehonmaaGreatLGrP
import Derived.Test.YtmgmpnhlehonmaaGreatLGrM
set_option linter.unusedVariables false
set_option linter.unusedSimpArgs false
namespace Go.Proofs.YtmgmpnhlehonmaaGreat
def Pr2 (e : List Int) : Prop := ∃ a b : Int, e = [a, b]
abbrev ltE (e f : List Int) : Prop := lexC e f < 0
theorem ltE_trans {e f g : List Int} (he : Pr2 e) (hf : Pr2 f) (hg : Pr2 g) (h1 : ltE e f) (h2 : ltE f g) : ltE e g := by
 obtain ⟨a, b, rfl⟩ := he; obtain ⟨c, d, rfl⟩ := hf; obtain ⟨x, y, rfl⟩ := hg
 unfold ltE at *
 rw [lex_two] at *
 omega
theorem ltE_total {e f : List Int} (he : Pr2 e) (hf : Pr2 f) (h : ¬ ltE e f) (hne : e ≠ f) : ltE f e := by
 obtain ⟨a, b, rfl⟩ := he; obtain ⟨c, d, rfl⟩ := hf
 unfold ltE at *
 rw [lex_two] at *
 by_cases h1 : a = c
 ·subst h1
  by_cases h2 : b = d
  ·subst h2; exact absurd rfl hne
  ·omega
 ·omega
theorem ltE_irr {e : List Int} (he : Pr2 e) : ¬ ltE e e := by
 obtain ⟨a, b, rfl⟩ := he
 unfold ltE
 rw [lex_two]
 omega
theorem insL_sorted {r : List Int} {O : List (List Int)} (hr : Pr2 r) (hO : ∀ e ∈ O, Pr2 e) (hs : O.Pairwise ltE) (hno : r ∉ O) : (insL r O).Pairwise ltE := by
 unfold insL
 have hl := atLx_low r O
 have hle := atLx_le r O
 have hn := atLx_not r O
 generalize atLx r O = k at *
 rw [List.pairwise_append]
 refine ⟨hs.sublist (List.take_sublist _ _), ?_, ?_⟩
 ·rw [List.pairwise_cons]
  refine ⟨fun e he => ?_, hs.sublist (List.drop_sublist _ _)⟩
  obtain ⟨i, hi, rfl⟩ := List.getElem_of_mem he
  rw [List.length_drop] at hi
  rw [List.getElem_drop]
  have hk : k < O.length := by omega
  have h1 := hn hk
  have h2 : O.getD k [] = O[k] := by simp [List.getD, hk]
  rw [h2] at h1
  have h3 : ltE r O[k] := ltE_total (hO _ (List.getElem_mem hk)) hr h1 fun e => hno (e ▸ List.getElem_mem hk)
  by_cases e : i = 0
  ·subst e; exact h3
  ·exact ltE_trans hr (hO _ (List.getElem_mem hk)) (hO _ (List.getElem_mem _)) h3 (List.pairwise_iff_getElem.1 hs k (k + i) hk (by omega) (by omega))
 ·intro e he f hf
  obtain ⟨i, hi, rfl⟩ := List.getElem_of_mem he
  rw [List.length_take] at hi
  have h1 := hl i (by omega)
  have h2 : O.getD i [] = O[i] := by simp [List.getD, show i < O.length by omega]
  rw [h2] at h1
  rw [List.getElem_take]
  rcases List.mem_cons.1 hf with rfl | hf
  ·exact h1
  ·obtain ⟨m, hm, rfl⟩ := List.getElem_of_mem hf
   rw [List.length_drop] at hm
   rw [List.getElem_drop]
   exact List.pairwise_iff_getElem.1 hs i (k + m) (by omega) (by omega) (by omega)
theorem srtL_sorted {E : List (List Int)} (hE : ∀ e ∈ E, Pr2 e) (hn : E.Nodup) : ∀ j, j ≤ E.length → (srtL E j).Pairwise ltE
 | 0, _ => by simp [srtL]
 | j + 1, hj => by
  have hp := srtL_perm (E := E) j (by omega)
  have e : E.getD j [] = E[j] := by simp [List.getD, show j < E.length by omega]
  rw [srtL, e]
  refine insL_sorted (hE _ (List.getElem_mem _)) (fun f hf => hE f (List.mem_of_mem_take (hp.mem_iff.1 hf))) (srtL_sorted hE hn j (by omega)) fun q => ?_
  have := hp.mem_iff.1 q
  obtain ⟨i, hi, he⟩ := List.getElem_of_mem this
  rw [List.length_take] at hi
  rw [List.getElem_take] at he
  exact (List.pairwise_iff_getElem.1 (List.nodup_iff_pairwise_ne.1 hn) i j (by omega) (by omega) (by omega)) he
theorem srtd_eq {E F : List (List Int)} (hE : ∀ e ∈ E, Pr2 e) (h1 : E.Pairwise ltE) (h2 : F.Pairwise ltE) (hp : E.Perm F) : E = F :=
 List.Perm.eq_of_pairwise (fun a b ha hb q1 q2 => absurd (ltE_trans (hE a ha) (hE b (hp.mem_iff.2 hb)) (hE a ha) q1 q2) (ltE_irr (hE a ha))) h1 h2 hp
theorem good_pr2 {n : Nat} {E : List (List Int)} (hg : GoodE n E) : ∀ e ∈ E, Pr2 e := fun e he => by
 obtain ⟨j, hj, h, _⟩ := hg.mem he
 exact ⟨_, _, h⟩
theorem good_sorted {n : Nat} {E : List (List Int)} (hg : GoodE n E) : E.Pairwise ltE := by
 rw [List.pairwise_iff_getElem]
 intro i j hi hj hij
 have h := edges_lt hg j hj i hij
 have e1 := (hg i hi).edge hi
 have e2 := (hg j hj).edge hj
 rw [List.getElem?_eq_getElem hi, Option.some.injEq] at e1
 rw [List.getElem?_eq_getElem hj, Option.some.injEq] at e2
 rw [e1, e2]
 unfold ltE
 rw [lex_two]
 exact h
theorem good_nodup {n : Nat} {E : List (List Int)} (hg : GoodE n E) : E.Nodup := by
 rw [List.nodup_iff_pairwise_ne]
 have hp := good_pr2 hg
 refine (good_sorted hg).imp_of_mem fun {a b} ha hb h e => ?_
 subst e
 exact ltE_irr (hp _ ha) h
def incW (w : List Int) (l : List Int) : Nat → List Int
 | 0 => w
 | j + 1 => (incW w l j).set (l.getD j 0).toNat ((incW w l j).getD (l.getD j 0).toNat 0 + 1)
theorem incW_len (w l : List Int) : ∀ j, (incW w l j).length = w.length
 | 0 => rfl
 | j + 1 => by rw [incW, List.length_set, incW_len w l j]
theorem incW_at {w l : List Int} (hl : ∀ x ∈ l, 0 ≤ x ∧ x < w.length) (hn : l.Nodup) : ∀ j, j ≤ l.length → ∀ i : Nat, (incW w l j).getD i 0 = w.getD i 0 + if (i : Int) ∈ l.take j then 1 else 0
 | 0, _, i => by simp [incW]
 | j + 1, hj, i => by
  have ih := incW_at hl hn j (by omega)
  have hx := hl l[j] (List.getElem_mem _)
  have e : l.getD j 0 = l[j] := by simp [List.getD, show j < l.length by omega]
  rw [incW, e, getD_setI (by rw [incW_len]; omega), ih, ih, List.take_add_one, List.getElem?_eq_getElem (show j < l.length by omega)]
  simp only [Option.toList_some, List.mem_append, List.mem_singleton]
  by_cases h : l[j].toNat = i
  ·have h2 : (i : Int) = l[j] := by omega
   have hno : l[j] ∉ l.take j := fun q => by
    obtain ⟨m, hm, he⟩ := List.getElem_of_mem q
    rw [List.length_take] at hm
    rw [List.getElem_take] at he
    exact (List.pairwise_iff_getElem.1 (List.nodup_iff_pairwise_ne.1 hn) m j (by omega) (by omega) (by omega)) he
   rw [if_pos h, show ((l[j].toNat : Nat) : Int) = l[j] by omega, if_neg hno, if_pos (show (i : Int) ∈ l.take j ∨ (i : Int) = l[j] from .inr h2), h]
   omega
  ·rw [if_neg h]
   by_cases h2 : (i : Int) ∈ l.take j
   ·rw [if_pos h2, if_pos (.inl h2)]
   ·rw [if_neg h2, if_neg (by rintro (q | q); exact h2 q; omega)]
def dcI (v x : Int) : Int := if x > v then x - 1 else x
def dcE (v : Int) (e : List Int) : List Int := [dcI v (e0 e), dcI v (e1 e)]
def noV (v : Int) (e : List Int) : Bool := !(decide (e0 e = v) || decide (e1 e = v))
def midE (E : List (List Int)) (v : Int) : List (List Int) := E.filter (noV v) ++ if (near E v).length = 2 then [near E v] else []
def cnX (E : List (List Int)) (v : Int) : List (List Int) := (midE E v).map (dcE v)
def cnE (E : List (List Int)) (v : Int) : List (List Int) := srtL (cnX E v) (cnX E v).length
def cnI (w : List Int) (E : List (List Int)) (v : Int) : List Int := incW w (near E v) (near E v).length
def cnW (w : List Int) (E : List (List Int)) (v : Int) : List Int := (cnI w E v).eraseIdx v.toNat
def CanC (w : List Int) (E : List (List Int)) (v : Int) : Prop := 1 < w.length ∧ w.getD v.toNat 0 = -1 ∧ (near E v).length ≤ 2
instance (w : List Int) (E : List (List Int)) (v : Int) : Decidable (CanC w E v) := by unfold CanC; infer_instance
theorem cnW_len {w : List Int} {E : List (List Int)} {v : Int} (hv : 0 ≤ v ∧ v < w.length) : (cnW w E v).length + 1 = w.length := by
 unfold cnW cnI
 rw [List.length_eraseIdx, incW_len, if_pos (by omega)]
 omega
theorem eraseIdx_getD (l : List Int) (k i : Nat) : (l.eraseIdx k).getD i 0 = if i < k then l.getD i 0 else l.getD (i + 1) 0 := by
 simp only [List.getD_eq_getElem?_getD, List.getElem?_eraseIdx]
 split <;> rfl
theorem cnI_at {w : List Int} {E : List (List Int)} (hg : IsGr w E) (v : Int) (i : Nat) : (cnI w E v).getD i 0 = w.getD i 0 + if (i : Int) ∈ near E v then 1 else 0 := by
 unfold cnI
 rw [incW_at (fun x hx => near_in hg.2.2.1 hx) (near_nodup hg.2.2.1 v) _ (Nat.le_refl _), List.take_length]
theorem cnW_at {w : List Int} {E : List (List Int)} (hg : IsGr w E) {v : Int} (hv : 0 ≤ v ∧ v < w.length) {x : Int} (hx : 0 ≤ x ∧ x ≠ v) : (cnW w E v).getD (dcI v x).toNat 0 = w.getD x.toNat 0 + if x ∈ near E v then 1 else 0 := by
 unfold cnW dcI
 rw [eraseIdx_getD]
 by_cases h : x > v
 ·rw [if_pos h, if_neg (by omega), show (x - 1).toNat + 1 = x.toNat by omega, cnI_at hg, show ((x.toNat : Nat) : Int) = x by omega]
 ·rw [if_neg h, if_pos (by omega), cnI_at hg, show ((x.toNat : Nat) : Int) = x by omega]
theorem dcI_inj {v x y : Int} (hx : x ≠ v) (hy : y ≠ v) (h : dcI v x = dcI v y) : x = y := by
 unfold dcI at h
 split at h <;> split at h <;> omega
theorem dcI_in {n : Nat} {v x : Int} (hv : 0 ≤ v ∧ v < n) (hx : 0 ≤ x ∧ x < n) (h : x ≠ v) : 0 ≤ dcI v x ∧ dcI v x < (n - 1 : Nat) := by
 unfold dcI
 split <;> omega
def upI (v y : Int) : Int := if y ≥ v then y + 1 else y
theorem dc_up {v y : Int} : dcI v (upI v y) = y := by
 unfold upI dcI
 split <;> split <;> omega
theorem up_ne {v y : Int} : upI v y ≠ v := by
 unfold upI
 split <;> omega
theorem noV_iff {v : Int} {e : List Int} : noV v e = true ↔ e0 e ≠ v ∧ e1 e ≠ v := by simp [noV]
theorem midE_mem {w : List Int} {E : List (List Int)} (hg : IsGr w E) {v : Int} {e : List Int} (h : e ∈ midE E v) : ∃ a b : Int, e = [a, b] ∧ (0 ≤ a ∧ a < b ∧ b < w.length) ∧ a ≠ v ∧ b ≠ v := by
 unfold midE at h
 rcases List.mem_append.1 h with h | h
 ·rw [List.mem_filter, noV_iff] at h
  obtain ⟨j, hj, he, k1, k2, k3⟩ := hg.2.2.1.mem h.1
  rw [he] at h
  exact ⟨_, _, he, ⟨k1, k2, k3⟩, h.2.1, h.2.2⟩
 ·split at h
  ·rename_i hl
   rw [List.mem_singleton] at h
   have hs := near_sorted hg.2.2.1 v
   have hin := fun x => near_in hg.2.2.1 (v := v) (x := x)
   have hne : ∀ x ∈ near E v, x ≠ v := fun x hx => ((hg.2.2.1.adj ((near_mem hg.2.2.1).1 hx)).2.2).symm
   rw [h]
   match hnr : near E v, hl with
   | [a, b], _ =>
    rw [hnr] at hs hin hne
    have h1 := hin a (by simp)
    have h2 := hin b (by simp)
    have h3 : a < b := by simpa using hs
    exact ⟨a, b, rfl, ⟨h1.1, h3, h2.2⟩, hne a (by simp), hne b (by simp)⟩
  ·simp at h
theorem Dm_noV (a : Int → Int) {n : Nat} {E : List (List Int)} (hg : GoodE n E) {v : Int} {U : List Int} (hU : v ∉ U) : Dm a (E.filter (noV v)) U = Dm a E U :=
 Dm_filter a (noV v) E U fun e he hn q => by
  simp only [noV, Bool.not_eq_false', Bool.or_eq_true, decide_eq_true_eq] at hn
  rcases hn with h | h
  ·exact hU (h ▸ q.1)
  ·exact hU (h ▸ q.2)
theorem cn_det {w : List Int} {E : List (List Int)} (hg : IsGr w E) {v : Int} (hv : 0 ≤ v ∧ v < w.length) (hc : CanC w E v) : Dm (awt (cnW w E v)) (cnE E v) (iota (cnW w E v).length) = Dm (awt w) E (iota w.length) := by
 have hl := cnW_len (E := E) hv
 obtain ⟨hc1, hc2, hc3⟩ := hc
 have hnl : NoLoop (E.filter (noV v)) := fun e he => noLoop hg.2.2.1 e (List.mem_filter.1 he).1
 -- the vertices, as they were
 have hV0 : ∀ x, x ∈ wo (iota w.length) v ↔ (0 ≤ x ∧ x < w.length) ∧ x ≠ v := fun x => by rw [wo_mem, iota_mem]
 have hVn : (wo (iota w.length) v).Nodup := wo_nodup (iota_nodup _) _
 have hperm : (iota (cnW w E v).length).Perm ((wo (iota w.length) v).map (dcI v)) := by
  rw [List.perm_ext_iff_of_nodup (iota_nodup _)]
  ·intro y
   rw [iota_mem, List.mem_map]
   constructor
   ·intro hy
    refine ⟨upI v y, (hV0 _).2 ⟨?_, up_ne⟩, dc_up⟩
    unfold upI
    split <;> omega
   ·rintro ⟨x, hx, rfl⟩
    have h := (hV0 x).1 hx
    have := dcI_in hv h.1 h.2
    omega
  ·rw [List.nodup_iff_pairwise_ne, List.pairwise_map]
   refine (List.nodup_iff_pairwise_ne.1 hVn).imp_of_mem fun {x y} hx hy hne q => hne (dcI_inj ((hV0 _).1 hx).2 ((hV0 _).1 hy).2 q)
 -- the numbers
 have hmap := Dm_map (awt (cnW w E v)) (φ := dcI v) (S := wo (iota w.length) v) (fun x hx y hy q => dcI_inj ((hV0 _).1 hx).2 ((hV0 _).1 hy).2 q) (midE E v) (wo (iota w.length) v) (fun x hx => hx) (fun e he => by
  obtain ⟨a, b, rfl, h1, h2, h3⟩ := midE_mem hg he
  have ha : a < w.length := by omega
  have hb : 0 ≤ b := by omega
  exact ⟨(hV0 a).2 ⟨⟨h1.1, ha⟩, h2⟩, (hV0 b).2 ⟨⟨hb, h1.2.2⟩, h3⟩⟩)
 have hX : (midE E v).map (fun e => [dcI v (e0 e), dcI v (e1 e)]) = cnX E v := rfl
 rw [hX] at hmap
 have ha1 : ∀ x ∈ wo (iota w.length) v, awt (cnW w E v) (dcI v x) = awt w x - if x ∈ near E v then 1 else 0 := fun x hx => by
  have h := (hV0 _).1 hx
  unfold awt
  rw [cnW_at hg hv ⟨h.1.1, h.2⟩]
  omega
 rw [show cnE E v = srtL (cnX E v) (cnX E v).length from rfl, Dm_permE _ (srtL_all _), Dm_permV _ _ hperm, hmap, Dm_congr (b := fun x => awt w x - if x ∈ near E v then 1 else 0) _ ha1]
 -- developed at the vertex
 have hvm : v ∈ iota w.length := iota_mem.2 hv
 have hav : awt w v = 1 := by unfold awt; rw [hc2]; rfl
 have hin : ∀ x ∈ near E v, x ∈ wo (iota w.length) v := fun x hx => (hV0 _).2 ⟨near_in hg.2.2.1 hx, ((hg.2.2.1.adj ((near_mem hg.2.2.1).1 hx)).2.2).symm⟩
 have hvv : v ∉ wo (iota w.length) v := fun q => (wo_mem.1 q).2 rfl
 rw [Dm_near (awt w) hg.2.2.1 (iota_nodup _) hvm, hav, Int.one_mul, smL_congr (g := fun j => Dm (awt w) (E.filter (noV v)) (wo (wo (iota w.length) v) j)) (fun j hj => by
  rw [if_pos (wo_mem.1 (hin j hj)).1, Dm_noV _ hg.2.2.1 fun q => hvv (wo_mem.1 q).1]), ← Dm_noV (awt w) hg.2.2.1 hvv]
 generalize hF : E.filter (noV v) = F at *
 have hmid : midE E v = F ++ if (near E v).length = 2 then [near E v] else [] := by unfold midE; rw [hF]
 have hnn := near_nodup hg.2.2.1 v
 rw [hmid]
 generalize wo (iota w.length) v = V at *
 match hnr : near E v, hc3 with
 | [], _ =>
  rw [if_neg (by simp), List.append_nil, smL, Int.sub_zero]
  exact Dm_congr F fun x _ => by simp
 | [i], _ =>
  rw [hnr] at hin
  have hi := hin i (by simp)
  rw [if_neg (by simp), List.append_nil, smL, smL, Int.add_zero]
  have h1 := Dm_raise (a := fun x => awt w x - if x ∈ [i] then 1 else 0) (b := awt w) hnl hVn hi (by simp) (fun x _ hx => by simp [hx])
  have h2 : Dm (awt w) F (wo V i) = Dm (fun x => awt w x - if x ∈ [i] then 1 else 0) F (wo V i) := Dm_congr F fun x hx => by simp [(wo_mem.1 hx).2]
  omega
 | [i, k], _ =>
  rw [hnr] at hin hnn
  have hi := hin i (by simp)
  have hk := hin k (by simp)
  have hik : i ≠ k := by simp at hnn; exact hnn
  rw [if_pos (by simp), Dm_permE _ (show (F ++ [[i, k]]).Perm ([i, k] :: F) from List.perm_append_singleton _ _), Dm, smL, smL, smL, Int.add_zero]
  rw [if_pos (show e0 [i, k] ∈ V ∧ e1 [i, k] ∈ V from ⟨hi, hk⟩)]
  show _ - Dm _ F (wo (wo V i) k) = _
  have h1 := Dm_raise (a := fun x => awt w x - if x = k then 1 else 0) (b := awt w) hnl hVn hk (by simp) (fun x _ hx => by simp [hx])
  have h2 := Dm_raise (a := fun x => awt w x - if x ∈ [i, k] then 1 else 0) (b := fun x => awt w x - if x = k then 1 else 0) hnl hVn hi (by simp [hik]) (fun x _ hx => by simp [hx])
  have h3 := Dm_raise (a := fun x => awt w x - if x ∈ [i, k] then 1 else 0) (b := fun x => awt w x - if x = k then 1 else 0) hnl (wo_nodup hVn k) (wo_mem.2 ⟨hi, hik⟩) (by simp [hik]) (fun x _ hx => by simp [hx])
  have h4 : Dm (awt w) F (wo V k) = Dm (fun x => awt w x - if x = k then 1 else 0) F (wo V k) := Dm_congr F fun x hx => by simp [(wo_mem.1 hx).2]
  have h5 := Dm_raise (a := fun x => awt w x - if x = k then 1 else 0) (b := awt w) hnl (wo_nodup hVn i) (wo_mem.2 ⟨hk, fun q => hik q.symm⟩) (by simp) (fun x _ hx => by simp [hx])
  have h6 : Dm (fun x => awt w x - if x = k then 1 else 0) F (wo V i) = Dm (fun x => awt w x - if x ∈ [i, k] then 1 else 0) F (wo V i) := Dm_congr F fun x hx => by simp [(wo_mem.1 hx).2]
  have h7 : Dm (fun x => awt w x - if x = k then 1 else 0) F (wo (wo V i) k) = Dm (fun x => awt w x - if x ∈ [i, k] then 1 else 0) F (wo (wo V i) k) := Dm_congr F fun x hx => by simp [(wo_mem.1 hx).2, (wo_mem.1 (wo_mem.1 hx).1).2]
  rw [wo_comm V k i] at h3
  omega
def FitC (w : List Int) (E : List (List Int)) (v : Int) : Prop := ∀ x ∈ near E v, w.getD x.toNat 0 + 1 ≤ 1000
instance (w : List Int) (E : List (List Int)) (v : Int) : Decidable (FitC w E v) := by unfold FitC; infer_instance
theorem forest_sub {E F : List (List Int)} (hf : Forest E) (h : ∀ e ∈ F, e ∈ E) : Forest F := fun l hl => hf l (hl.mono h)
theorem getD_app1 (w : List Int) (x : Int) (i : Nat) : (w ++ [x]).getD i 0 = if i < w.length then w.getD i 0 else if i = w.length then x else 0 := by
 by_cases h : i < w.length
 ·rw [if_pos h, List.getD_eq_getElem?_getD, List.getElem?_append_left h, ← List.getD_eq_getElem?_getD]
 ·rw [if_neg h]
  by_cases e : i = w.length
  ·subst e; simp
  ·rw [if_neg e, List.getD_eq_getElem?_getD, List.getElem?_eq_none (by simp; omega)]
   rfl
theorem good_new {n : Nat} {E : List (List Int)} (hE : ∀ e ∈ E, ∃ a b : Int, e = [a, b] ∧ 0 ≤ a ∧ a < b ∧ b < n) (hn : E.Nodup) : GoodE n (srtL E E.length) :=
 goodE_of (fun e he => hE e ((srtL_all _).mem_iff.1 he)) (srtL_sorted (fun e he => by obtain ⟨a, b, h, _⟩ := hE e he; exact ⟨a, b, h⟩) hn _ (Nat.le_refl _))
theorem good_edge {n : Nat} {E : List (List Int)} (hg : GoodE n E) : ∀ e ∈ E, ∃ a b : Int, e = [a, b] ∧ 0 ≤ a ∧ a < b ∧ b < n := fun e he => by
 obtain ⟨j, hj, h, h1, h2, h3⟩ := hg.mem he
 exact ⟨_, _, h, h1, h2, h3⟩
theorem dc_same {n : Nat} {E : List (List Int)} (hE : ∀ e ∈ E, ∃ a b : Int, e = [a, b] ∧ 0 ≤ a ∧ a < b ∧ b < n) : E.map (dcE n) = E := by
 conv => rhs; rw [← List.map_id E]
 refine List.map_congr_left fun e he => ?_
 obtain ⟨a, b, rfl, h1, h2, h3⟩ := hE e he
 show [dcI n a, dcI n b] = [a, b]
 unfold dcI
 rw [if_neg (by omega), if_neg (by omega)]
theorem cnE_back {n : Nat} {w : List Int} {E X : List (List Int)} (hg : GoodE n E) (hX : (cnX X n).Perm E) : cnE X n = E := by
 refine (srtd_eq (good_pr2 hg) (good_sorted hg) ?_ ((srtL_all _).trans hX).symm).symm
 exact srtL_sorted (fun e he => good_pr2 hg e (hX.mem_iff.1 he)) (hX.nodup_iff.2 (good_nodup hg)) _ (Nat.le_refl _)
theorem bvE_mem {w : List Int} {E : List (List Int)} {v : Int} {e : List Int} : e ∈ bvE w E v ↔ e ∈ E ∨ e = [v, (w.length : Int)] := by
 unfold bvE
 rw [(srtL_all _).mem_iff, List.mem_append, List.mem_singleton]
theorem bv_new {w : List Int} {E : List (List Int)} (hg : IsGr w E) (v : Int) : [v, (w.length : Int)] ∉ E := fun q => by
 obtain ⟨a, b, h, h1, h2, h3⟩ := good_edge hg.2.2.1 _ q
 simp only [List.cons.injEq, and_true] at h
 omega
theorem bv_good {w : List Int} {E : List (List Int)} (hg : IsGr w E) {v : Int} (hv : 0 ≤ v ∧ v < w.length) : GoodE (w.length + 1) (bvE w E v) := by
 unfold bvE
 refine good_new (fun e he => ?_) ?_
 ·rcases List.mem_append.1 he with he | he
  ·obtain ⟨a, b, h, h1, h2, h3⟩ := good_edge hg.2.2.1 e he
   exact ⟨a, b, h, h1, h2, by omega⟩
  ·rw [List.mem_singleton] at he
   exact ⟨_, _, he, hv.1, hv.2, by omega⟩
 ·rw [List.nodup_append]
  refine ⟨good_nodup hg.2.2.1, by simp, fun a ha b hb q => ?_⟩
  rw [List.mem_singleton] at hb
  subst q
  exact bv_new hg v (hb ▸ ha)
theorem sep_new {w : List Int} {E : List (List Int)} (hg : IsGr w E) : Sep E fun x => if x = (w.length : Int) then -1 else labOf w E x := ⟨fun x y h => by
 have hr := hg.2.2.1.adj h
 rw [if_neg (by omega), if_neg (by omega)]
 exact hg.sep.same x y h⟩
theorem bv_forest {w : List Int} {E : List (List Int)} (hg : IsGr w E) {v : Int} (hv : 0 ≤ v ∧ v < w.length) : Forest (bvE w E v) := by
 refine forest_sub (forest_step (a := v) (b := (w.length : Int)) (sep_new hg) hg.forest ?_) fun e he => ?_
 ·have := lab_facts hg hv
  simp only [if_true]
  rw [if_neg (by omega)]
  omega
 ·rw [List.mem_append, List.mem_singleton]
  exact bvE_mem.1 he
theorem bvW_len (w : List Int) (v : Int) : (bvW w v).length = w.length + 1 := by simp [bvW]
theorem bvW_at {w : List Int} {v : Int} (hv : 0 ≤ v ∧ v < w.length) (i : Nat) : (bvW w v).getD i 0 = if i = w.length then -1 else w.getD i 0 - if (i : Int) = v then 1 else 0 := by
 unfold bvW
 rw [getD_app1, List.length_set, Nat.mul_one, getD_setI (show v.toNat < w.length by omega)]
 by_cases h : i < w.length
 ·rw [if_pos h, if_neg (show ¬ i = w.length by omega)]
  by_cases e : v.toNat = i
  ·rw [if_pos e, if_pos (show (i : Int) = v by omega), e]
  ·rw [if_neg e, if_neg (show ¬ (i : Int) = v by omega)]; omega
 ·rw [if_neg h]
  by_cases e : i = w.length
  ·rw [if_pos e, if_pos e]
  ·rw [if_neg e, if_neg e, if_neg (by omega), List.getD_eq_getElem?_getD, List.getElem?_eq_none (by omega)]; rfl
theorem bv_gr {w : List Int} {E : List (List Int)} (hg : IsGr w E) {v : Int} (hv : 0 ≤ v ∧ v < w.length) (h1 : w.length < 40) (h2 : -1000 < w.getD v.toNat 0) : IsGr (bvW w v) (bvE w E v) := by
 have hgood := bv_good hg hv
 rw [← bvW_len w v] at hgood
 refine ⟨⟨by rw [bvW_len]; omega, by rw [bvW_len]; omega⟩, fun i hi => ?_, hgood, acy_of hgood (bv_forest hg hv)⟩
 rw [bvW_len] at hi
 rw [bvW_at hv]
 by_cases e : i = w.length
 ·rw [if_pos e]; omega
 ·rw [if_neg e]
  have := hg.2.1 i (by omega)
  by_cases e2 : (i : Int) = v
  ·rw [if_pos e2]
   rw [show v.toNat = i by omega] at h2
   omega
  ·rw [if_neg e2]; omega
theorem near_of {n : Nat} {E : List (List Int)} (hg : GoodE n E) {v : Int} {l : List Int} (hl : l.Pairwise (· < ·)) (h : ∀ x, Adj E v x ↔ x ∈ l) : near E v = l := by
 have hp : (near E v).Perm l := by
  rw [List.perm_ext_iff_of_nodup (near_nodup hg v) (hl.imp fun h => by omega)]
  intro x
  rw [near_mem hg, h]
 exact List.Perm.eq_of_pairwise (fun a b _ _ h1 h2 => absurd h1 (by omega)) (near_sorted hg v) hl hp
theorem bv_near {w : List Int} {E : List (List Int)} (hg : IsGr w E) {v : Int} (hv : 0 ≤ v ∧ v < w.length) : near (bvE w E v) w.length = [v] := by
 refine near_of (bv_good hg hv) (by simp) fun x => ?_
 unfold Adj
 rw [bvE_mem, bvE_mem, List.mem_singleton]
 constructor
 ·rintro ((q | q) | (q | q))
  ·obtain ⟨a, b, h, h1, h2, h3⟩ := good_edge hg.2.2.1 _ q
   simp only [List.cons.injEq, and_true] at h
   omega
  ·simp only [List.cons.injEq, and_true] at q
   omega
  ·obtain ⟨a, b, h, h1, h2, h3⟩ := good_edge hg.2.2.1 _ q
   simp only [List.cons.injEq, and_true] at h
   omega
  ·simp only [List.cons.injEq, and_true] at q
   exact q
 ·rintro rfl
  exact .inr (.inr rfl)
theorem bv_can {w : List Int} {E : List (List Int)} (hg : IsGr w E) {v : Int} (hv : 0 ≤ v ∧ v < w.length) : CanC (bvW w v) (bvE w E v) w.length := by
 refine ⟨by rw [bvW_len]; have := hg.1.1; omega, ?_, by rw [bv_near hg hv]; simp⟩
 rw [Int.toNat_natCast, bvW_at hv, if_pos rfl]
theorem filter_all {α : Type} {p : α → Bool} {l : List α} (h : ∀ x ∈ l, p x = true) : l.filter p = l := List.filter_eq_self.2 h
theorem bv_backE {w : List Int} {E : List (List Int)} (hg : IsGr w E) {v : Int} (hv : 0 ≤ v ∧ v < w.length) : cnE (bvE w E v) w.length = E := by
 refine cnE_back (n := w.length) (w := w) hg.2.2.1 ?_
 unfold cnX midE
 rw [bv_near hg hv, if_neg (by simp), List.append_nil]
 have h1 : ((bvE w E v).filter (noV w.length)).Perm E := by
  refine ((srtL_all (E ++ [[v, (w.length : Int)]])).filter _).trans ?_
  rw [List.filter_append, filter_all (l := E) fun e he => ?_, List.filter_cons_of_neg (by simp [noV]), List.filter_nil, List.append_nil]
  obtain ⟨a, b, rfl, h1, h2, h3⟩ := good_edge hg.2.2.1 _ he
  rw [noV_iff]
  show a ≠ _ ∧ b ≠ _
  omega
 have h2 := h1.map (dcE w.length)
 rwa [dc_same (good_edge hg.2.2.1)] at h2
theorem bv_backW {w : List Int} {E : List (List Int)} (hg : IsGr w E) {v : Int} (hv : 0 ≤ v ∧ v < w.length) (h1 : w.length < 40) (h2 : -1000 < w.getD v.toNat 0) : cnW (bvW w v) (bvE w E v) w.length = w := by
 have hl := cnW_len (w := bvW w v) (E := bvE w E v) (v := w.length) (by rw [bvW_len]; omega)
 rw [bvW_len] at hl
 refine ext_I (by omega) fun k hk => ?_
 have := cnW_at (bv_gr hg hv h1 h2) (v := w.length) (by rw [bvW_len]; omega) (x := k) (by omega)
 unfold dcI at this
 rw [if_neg (by omega), Int.toNat_natCast, bvW_at hv, if_neg (by omega), bv_near hg hv] at this
 rw [this]
 simp only [List.mem_singleton]
 split <;> omega
theorem bv_det {w : List Int} {E : List (List Int)} (hg : IsGr w E) {v : Int} (hv : 0 ≤ v ∧ v < w.length) (h1 : w.length < 40) (h2 : -1000 < w.getD v.toNat 0) : Dm (awt (bvW w v)) (bvE w E v) (iota (bvW w v).length) = Dm (awt w) E (iota w.length) := by
 have := cn_det (bv_gr hg hv h1 h2) (v := w.length) (by rw [bvW_len]; omega) (bv_can hg hv)
 rw [bv_backE hg hv, bv_backW hg hv h1 h2] at this
 exact this.symm
theorem fltE_eq (E : List (List Int)) (r : List Int) : ∀ j, j ≤ E.length → fltE E r j = (E.take j).filter fun e => decide (e ≠ r)
 | 0, _ => by simp [fltE]
 | j + 1, hj => by
  have e : E.getD j [] = E[j] := by simp [List.getD, show j < E.length by omega]
  rw [fltE, fltE_eq E r j (by omega), List.take_add_one, List.getElem?_eq_getElem (show j < E.length by omega), e, List.filter_append]
  congr 1
  by_cases h : E[j] = r
  ·rw [if_pos h]; simp [h]
  ·rw [if_neg h]; simp [h]
theorem beR_eq (w : List Int) (E : List (List Int)) (i k : Int) : beR w E i k = (E.filter fun e => decide (e ≠ [min i k, max i k])) ++ [[i, (w.length : Int)], [k, (w.length : Int)]] := by
 unfold beR
 rw [fltE_eq E _ _ (Nat.le_refl _), List.take_length]
theorem be_mem {w : List Int} {E : List (List Int)} {i k : Int} {e : List Int} : e ∈ beE w E i k ↔ (e ∈ E ∧ e ≠ [min i k, max i k]) ∨ e = [i, (w.length : Int)] ∨ e = [k, (w.length : Int)] := by
 unfold beE
 rw [(srtL_all _).mem_iff, beR_eq]
 simp
theorem be_good {w : List Int} {E : List (List Int)} (hg : IsGr w E) {i k : Int} (hi : 0 ≤ i ∧ i < w.length) (hk : 0 ≤ k ∧ k < w.length) (hik : i ≠ k) : GoodE (w.length + 1) (beE w E i k) := by
 unfold beE
 rw [beR_eq]
 refine good_new (fun e he => ?_) ?_
 ·rcases List.mem_append.1 he with he | he
  ·obtain ⟨a, b, h, h1, h2, h3⟩ := good_edge hg.2.2.1 e (List.mem_filter.1 he).1
   exact ⟨a, b, h, h1, h2, by omega⟩
  ·simp only [List.mem_cons, List.not_mem_nil, or_false] at he
   rcases he with he | he
   ·exact ⟨_, _, he, hi.1, hi.2, by omega⟩
   ·exact ⟨_, _, he, hk.1, hk.2, by omega⟩
 ·rw [List.nodup_append]
  refine ⟨(good_nodup hg.2.2.1).filter _, by simp [hik], fun a ha b hb q => ?_⟩
  subst q
  have ha := (List.mem_filter.1 ha).1
  simp only [List.mem_cons, List.not_mem_nil, or_false] at hb
  rcases hb with hb | hb
  ·exact bv_new hg i (hb ▸ ha)
  ·exact bv_new hg k (hb ▸ ha)
theorem adj_mm {n : Nat} {E : List (List Int)} (hg : GoodE n E) {i k : Int} (h : Adj E i k) : [min i k, max i k] ∈ E := by
 have hr := hg.adj h
 rcases h with q | q
 ·obtain ⟨a, b, e, h1, h2, h3⟩ := good_edge hg _ q
  simp only [List.cons.injEq, and_true] at e
  rwa [show min i k = i by omega, show max i k = k by omega]
 ·obtain ⟨a, b, e, h1, h2, h3⟩ := good_edge hg _ q
  simp only [List.cons.injEq, and_true] at e
  rwa [show min i k = k by omega, show max i k = i by omega]
theorem be_forest {w : List Int} {E : List (List Int)} (hg : IsGr w E) {i k : Int} (hi : 0 ≤ i ∧ i < w.length) (hk : 0 ≤ k ∧ k < w.length) (ha : Adj E i k) : Forest (beE w E i k) := by
 have hik := (hg.2.2.1.adj ha).2.2
 have hgF : GoodE w.length (E.filter fun e => decide (e ≠ [min i k, max i k])) := goodE_of (fun e he => good_edge hg.2.2.1 e (List.mem_filter.1 he).1) ((good_sorted hg.2.2.1).filter _)
 have hsub : ∀ e ∈ E.filter fun e => decide (e ≠ [min i k, max i k]), e ∈ E := fun e he => (List.mem_filter.1 he).1
 have hoff : ¬ Adj (E.filter fun e => decide (e ≠ [min i k, max i k])) i k := by
  rintro (q | q)
  ·have h1 := (List.mem_filter.1 q)
   obtain ⟨a, b, e, h2, h3, h4⟩ := good_edge hg.2.2.1 _ h1.1
   simp only [List.cons.injEq, and_true] at e
   have h5 := of_decide_eq_true h1.2
   exact h5 (by rw [show min i k = i by omega, show max i k = k by omega])
  ·have h1 := (List.mem_filter.1 q)
   obtain ⟨a, b, e, h2, h3, h4⟩ := good_edge hg.2.2.1 _ h1.1
   simp only [List.cons.injEq, and_true] at e
   have h5 := of_decide_eq_true h1.2
   exact h5 (by rw [show min i k = k by omega, show max i k = i by omega])
 have hF := forest_sub hg.forest hsub
 generalize hFd : (E.filter fun e => decide (e ≠ [min i k, max i k])) = F at *
 -- no way from k to i without the edge
 have hno : ¬ ∃ u, Bw F i [] k u := by
  rintro ⟨u, l, p, h1, h2, _⟩
  have h3 : NB E (k :: l) := h1.mono hsub
  have hr := NB.reverse h3
  have e2 : (k :: l).reverse = i :: p.reverse := by rw [h2]; simp
  rw [e2] at hr
  cases hp : p.reverse with
  | nil =>
   have : p = [] := by simpa using hp
   subst this
   obtain ⟨e, _⟩ := List.cons.inj h2
   exact hik e.symm
  | cons z q =>
   rw [hp] at hr e2
   have hz : k ≠ z ∨ k = z := by omega
   rcases hz with hz | hz
   ·have := hg.forest _ (hr.cons ha.symm fun z' l' e => by obtain ⟨rfl, _⟩ := List.cons.inj e; exact hz)
    rw [List.nodup_cons] at this
    refine this.1 ?_
    rw [← e2]
    simp
   ·subst hz
    have hr2 := NB.reverse h1
    rw [e2] at hr2
    exact hoff hr2.adj
 -- two steps
 have hs1 : Sep F fun x => if x = (w.length : Int) then -1 else 0 := ⟨fun x y h => by
  have hr := hgF.adj h
  rw [if_neg (by omega), if_neg (by omega)]⟩
 have hf1 : Forest (F ++ [[i, (w.length : Int)]]) := forest_step hs1 hF (by simp only [if_true]; rw [if_neg (by omega)]; decide)
 have hs2 : Sep (F ++ [[i, (w.length : Int)]]) fun x => @ite Int ((∃ u, Bw F i [] x u) ∨ x = (w.length : Int)) (Classical.propDecidable _) 1 0 := ⟨fun x y h => by
  have key : ∀ x y, Adj (F ++ [[i, (w.length : Int)]]) x y → ((∃ u, Bw F i [] x u) ∨ x = (w.length : Int)) → ((∃ u, Bw F i [] y u) ∨ y = (w.length : Int)) := fun x y h hx => by
   have hadj : Adj F x y ∨ (x = i ∧ y = (w.length : Int)) ∨ (x = (w.length : Int) ∧ y = i) := by
    rcases h with q | q
    ·rcases List.mem_append.1 q with q | q
     ·exact .inl (.inl q)
     ·simp only [List.mem_singleton, List.cons.injEq, and_true] at q
      exact .inr (.inl q)
    ·rcases List.mem_append.1 q with q | q
     ·exact .inl (.inr q)
     ·simp only [List.mem_singleton, List.cons.injEq, and_true] at q
      exact .inr (.inr ⟨q.2, q.1⟩)
   rcases hadj with q | q | q
   ·have hr := hgF.adj q
    rcases hx with hx | hx
    ·exact .inl (bw_adj hgF q hx)
    ·omega
   ·exact .inr q.2
   ·rw [q.2]
    exact .inl ⟨_, Bw.self (show NB F [i] from trivial)⟩
  by_cases hx : (∃ u, Bw F i [] x u) ∨ x = (w.length : Int)
  ·rw [if_pos hx, if_pos (key x y h hx)]
  ·rw [if_neg hx, if_neg fun hy => hx (key y x h.symm hy)]⟩
 have hf2 := forest_step hs2 hf1 (a := k) (b := (w.length : Int)) (by
  rw [if_neg (by rintro (q | q); exact hno q; omega), if_pos (.inr rfl)]
  decide)
 refine forest_sub hf2 fun e he => ?_
 rcases be_mem.1 he with q | q | q
 ·refine List.mem_append_left _ (List.mem_append_left _ ?_)
  rw [← hFd, List.mem_filter]
  exact ⟨q.1, decide_eq_true q.2⟩
 ·exact List.mem_append_left _ (List.mem_append_right _ (by simp [q]))
 ·exact List.mem_append_right _ (by simp [q])
theorem beW_len (w : List Int) (i k : Int) : (beW w i k).length = w.length + 1 := by simp [beW]
theorem beW_at {w : List Int} {i k : Int} (hi : 0 ≤ i ∧ i < w.length) (hk : 0 ≤ k ∧ k < w.length) (hik : i ≠ k) (j : Nat) : (beW w i k).getD j 0 = if j = w.length then -1 else w.getD j 0 - if (j : Int) = i ∨ (j : Int) = k then 1 else 0 := by
 unfold beW
 simp only [Nat.mul_one]
 rw [getD_setI (by simp; omega), getD_setI (by simp; omega), getD_setI (by simp; omega), getD_app1, getD_app1, getD_app1]
 by_cases h1 : k.toNat = j
 ·rw [if_pos h1, if_neg (show ¬ i.toNat = k.toNat by omega), if_pos (by omega), if_neg (by omega), if_pos (show (j : Int) = i ∨ (j : Int) = k by omega), h1]
 ·rw [if_neg h1]
  by_cases h2 : i.toNat = j
  ·rw [if_pos h2, if_pos (by omega), if_neg (by omega), if_pos (show (j : Int) = i ∨ (j : Int) = k by omega), h2]
  ·rw [if_neg h2]
   by_cases h3 : j < w.length
   ·rw [if_pos h3, if_neg (by omega), if_neg (show ¬ ((j : Int) = i ∨ (j : Int) = k) by omega)]; omega
   ·rw [if_neg h3]
    by_cases e : j = w.length
    ·rw [if_pos e, if_pos e]
    ·rw [if_neg e, if_neg e, if_neg (show ¬ ((j : Int) = i ∨ (j : Int) = k) by omega), List.getD_eq_getElem?_getD, List.getElem?_eq_none (by omega)]; rfl
theorem be_gr {w : List Int} {E : List (List Int)} (hg : IsGr w E) {i k : Int} (hi : 0 ≤ i ∧ i < w.length) (hk : 0 ≤ k ∧ k < w.length) (ha : Adj E i k) (h1 : w.length < 40) (h2 : -1000 < w.getD i.toNat 0) (h3 : -1000 < w.getD k.toNat 0) : IsGr (beW w i k) (beE w E i k) := by
 have hik := (hg.2.2.1.adj ha).2.2
 have hgood := be_good hg hi hk hik
 rw [← beW_len w i k] at hgood
 refine ⟨⟨by rw [beW_len]; omega, by rw [beW_len]; omega⟩, fun j hj => ?_, hgood, acy_of hgood (be_forest hg hi hk ha)⟩
 rw [beW_len] at hj
 rw [beW_at hi hk hik]
 by_cases e : j = w.length
 ·rw [if_pos e]; omega
 ·rw [if_neg e]
  have := hg.2.1 j (by omega)
  by_cases e2 : (j : Int) = i ∨ (j : Int) = k
  ·rw [if_pos e2]
   rcases e2 with e2 | e2
   ·rw [show i.toNat = j by omega] at h2
    omega
   ·rw [show k.toNat = j by omega] at h3
    omega
  ·rw [if_neg e2]; omega
theorem be_near {w : List Int} {E : List (List Int)} (hg : IsGr w E) {i k : Int} (hi : 0 ≤ i ∧ i < w.length) (hk : 0 ≤ k ∧ k < w.length) (hik : i ≠ k) : near (beE w E i k) w.length = [min i k, max i k] := by
 refine near_of (be_good hg hi hk hik) (by simp; omega) fun x => ?_
 unfold Adj
 rw [be_mem, be_mem]
 simp only [List.mem_cons, List.not_mem_nil, or_false]
 constructor
 ·rintro ((q | q | q) | (q | q | q))
  ·obtain ⟨a, b, h, h1, h2, h3⟩ := good_edge hg.2.2.1 _ q.1
   simp only [List.cons.injEq, and_true] at h
   omega
  ·simp only [List.cons.injEq, and_true] at q
   omega
  ·simp only [List.cons.injEq, and_true] at q
   omega
  ·obtain ⟨a, b, h, h1, h2, h3⟩ := good_edge hg.2.2.1 _ q.1
   simp only [List.cons.injEq, and_true] at h
   omega
  ·simp only [List.cons.injEq, and_true] at q
   omega
  ·simp only [List.cons.injEq, and_true] at q
   omega
 ·intro q
  by_cases e : x = i
  ·subst e; exact .inr (.inr (.inl rfl))
  ·have : x = k := by omega
   subst this; exact .inr (.inr (.inr rfl))
theorem be_can {w : List Int} {E : List (List Int)} (hg : IsGr w E) {i k : Int} (hi : 0 ≤ i ∧ i < w.length) (hk : 0 ≤ k ∧ k < w.length) (hik : i ≠ k) : CanC (beW w i k) (beE w E i k) w.length := by
 refine ⟨by rw [beW_len]; have := hg.1.1; omega, ?_, by rw [be_near hg hi hk hik]; simp⟩
 rw [Int.toNat_natCast, beW_at hi hk hik, if_pos rfl]
theorem be_backE {w : List Int} {E : List (List Int)} (hg : IsGr w E) {i k : Int} (hi : 0 ≤ i ∧ i < w.length) (hk : 0 ≤ k ∧ k < w.length) (ha : Adj E i k) : cnE (beE w E i k) w.length = E := by
 have hik := (hg.2.2.1.adj ha).2.2
 refine cnE_back (n := w.length) (w := w) hg.2.2.1 ?_
 unfold cnX midE
 rw [be_near hg hi hk hik, if_pos (by simp)]
 have hm := adj_mm hg.2.2.1 ha
 have h1 : ((beE w E i k).filter (noV w.length) ++ [[min i k, max i k]]).Perm E := by
  have h2 : ((beE w E i k).filter (noV w.length)).Perm (E.filter fun e => decide (e ≠ [min i k, max i k])) := by
   refine ((srtL_all (beR w E i k)).filter _).trans ?_
   rw [beR_eq, List.filter_append, filter_all (l := E.filter _) fun e he => ?_, List.filter_cons_of_neg (by simp [noV]), List.filter_cons_of_neg (by simp [noV]), List.filter_nil, List.append_nil]
   obtain ⟨a, b, rfl, h1, h2, h3⟩ := good_edge hg.2.2.1 _ (List.mem_filter.1 he).1
   rw [noV_iff]
   show a ≠ _ ∧ b ≠ _
   omega
  refine (h2.append_right _).trans ?_
  rw [List.perm_ext_iff_of_nodup]
  ·intro e
   rw [List.mem_append, List.mem_filter, List.mem_singleton]
   constructor
   ·rintro (q | q)
    ·exact q.1
    ·rw [q]; exact hm
   ·intro q
    by_cases e2 : e = [min i k, max i k]
    ·exact .inr e2
    ·exact .inl ⟨q, decide_eq_true e2⟩
  ·rw [List.nodup_append]
   refine ⟨(good_nodup hg.2.2.1).filter _, by simp, fun a ha b hb q => ?_⟩
   rw [List.mem_singleton] at hb
   subst q
   exact (of_decide_eq_true (List.mem_filter.1 ha).2) hb
  ·exact good_nodup hg.2.2.1
 have h2 := h1.map (dcE w.length)
 rwa [dc_same (good_edge hg.2.2.1)] at h2
theorem be_backW {w : List Int} {E : List (List Int)} (hg : IsGr w E) {i k : Int} (hi : 0 ≤ i ∧ i < w.length) (hk : 0 ≤ k ∧ k < w.length) (ha : Adj E i k) (h1 : w.length < 40) (h2 : -1000 < w.getD i.toNat 0) (h3 : -1000 < w.getD k.toNat 0) : cnW (beW w i k) (beE w E i k) w.length = w := by
 have hik := (hg.2.2.1.adj ha).2.2
 have hl := cnW_len (w := beW w i k) (E := beE w E i k) (v := w.length) (by rw [beW_len]; omega)
 rw [beW_len] at hl
 refine ext_I (by omega) fun j hj => ?_
 have := cnW_at (be_gr hg hi hk ha h1 h2 h3) (v := w.length) (by rw [beW_len]; omega) (x := j) (by omega)
 unfold dcI at this
 rw [if_neg (by omega), Int.toNat_natCast, beW_at hi hk hik, if_neg (by omega), be_near hg hi hk hik] at this
 rw [this]
 simp only [List.mem_cons, List.not_mem_nil, or_false]
 by_cases e : (j : Int) = i ∨ (j : Int) = k
 ·rw [if_pos e, if_pos (by omega)]; omega
 ·rw [if_neg e, if_neg (by omega)]; omega
theorem be_det {w : List Int} {E : List (List Int)} (hg : IsGr w E) {i k : Int} (hi : 0 ≤ i ∧ i < w.length) (hk : 0 ≤ k ∧ k < w.length) (ha : Adj E i k) (h1 : w.length < 40) (h2 : -1000 < w.getD i.toNat 0) (h3 : -1000 < w.getD k.toNat 0) : Dm (awt (beW w i k)) (beE w E i k) (iota (beW w i k).length) = Dm (awt w) E (iota w.length) := by
 have hik := (hg.2.2.1.adj ha).2.2
 have := cn_det (be_gr hg hi hk ha h1 h2 h3) (v := w.length) (by rw [beW_len]; omega) (be_can hg hi hk hik)
 rw [be_backE hg hi hk ha, be_backW hg hi hk ha h1 h2 h3] at this
 exact this.symm
end Go.Proofs.YtmgmpnhlehonmaaGreat
namespace Go.Proofs.YtmgmpnhlehonmaaGreat
set_option maxHeartbeats 20000000
open Go.Pv
open Go.ChangeShapes Go.WideShapes Go.ChangeAt Go.RowKit
attribute [local irreducible] RunU WpA Step CallG CallNG Done DoneN
noncomputable def brB (w : List Int) (E : List (List Int)) : Bool := @decide (brOk w E) (Classical.propDecidable _)
theorem brB_iff (w : List Int) (E : List (List Int)) : brB w E = true ↔ brOk w E := by unfold brB; exact @decide_eq_true_iff _ (Classical.propDecidable _)
noncomputable def fR (w : List Int) (E : List (List Int)) : List Int := if brB w E = true then fL w E else []
noncomputable def gR (w : List Int) (E : List (List Int)) : List Int := if brB w E = true then gL w E else []
structure FH (w : List Int) (E : List (List Int)) (S : Int → Int → Prop) (f h : List Int) : Prop where
 l1 : f.length = w.length
 l2 : h.length = w.length
 b1 : ∀ i, -1000000000000 ≤ f.getD i 0 ∧ f.getD i 0 ≤ 1000000000000
 b2 : ∀ i, -1000000000000 ≤ h.getD i 0 ∧ h.getD i 0 ≤ 1000000000000
 right : ∀ x u, S x u → okV w E x u ∧ (f.getD x.toNat 0, h.getD x.toNat 0) = FG w E x u
def Below (w : List Int) (E : List (List Int)) (j : Nat) (x u : Int) : Prop := (0 ≤ x ∧ x < w.length) ∧ labOf w E x < j ∧ u = par w E x
def Behind (o p : List Int) (c : Nat) (x u : Int) : Prop := ∃ m, m < o.length ∧ o.length ≤ m + c ∧ o.getD m 0 = x ∧ u = p.getD x.toNat 0
theorem FH.done {w : List Int} {E : List (List Int)} (hg : IsGr w E) {f h : List Int} (H : FH w E (Below w E w.length) f h) : brOk w E ∧ f = fL w E ∧ h = gL w E := by
 have key : ∀ x : Int, (0 ≤ x ∧ x < w.length) → okV w E x (par w E x) ∧ (f.getD x.toNat 0, h.getD x.toNat 0) = FG w E x (par w E x) := fun x hx => H.right x _ ⟨hx, by have := lab_facts hg hx; omega, rfl⟩
 refine ⟨fun x hx => (key x hx).1, ext_I (by rw [H.l1, fL_len]) fun k hk => ?_, ext_I (by rw [H.l2, gL_len]) fun k hk => ?_⟩
 ·rw [H.l1] at hk
  have h1 := fL_at (w := w) (E := E) (x := (k : Int)) (by omega)
  have h2 := congrArg Prod.fst (key k (by omega)).2
  rw [Int.toNat_natCast] at h1 h2
  rw [h1, ← h2]
 ·rw [H.l2] at hk
  have h1 := gL_at (w := w) (E := E) (x := (k : Int)) (by omega)
  have h2 := congrArg Prod.snd (key k (by omega)).2
  rw [Int.toNat_natCast] at h1 h2
  rw [h1, ← h2]
theorem FH.next {w : List Int} {E : List (List Int)} (hg : IsGr w E) {f h o p : List Int} {j : Nat} (hj : j < w.length) (hr : labOf w E j = j) (hO : Ord w E j o p) (H : FH w E (fun x u => Below w E j x u ∨ Behind o p o.length x u) f h) : FH w E (Below w E (j + 1)) f h := by
 refine ⟨H.l1, H.l2, H.b1, H.b2, fun x u ⟨hx, h1, h2⟩ => ?_⟩
 by_cases e : labOf w E x = j
 ·have hb := bw_all hg hx
  rw [e] at hb
  have hm := (hO.mem x).2 hb
  have hp := hO.par x hm
  rw [h2, ← par_eq hg hr hx hp]
  obtain ⟨m, k1, k2⟩ := getD_of_mem hm
  exact H.right x _ (.inr ⟨m, k1, by omega, k2, rfl⟩)
 ·exact H.right x u (.inl ⟨hx, by omega, h2⟩)
structure NbK (w : List Int) (E : List (List Int)) (v u : Int) (k : Nat) (P R : Int) : Prop where
 b : PrB (P, R)
 ok : okFG (fun c => FG w E c v) (((near E v).take k).filter fun c => decide (c ≠ u)) (1, -(w.getD v.toNat 0))
 val : (P, R) = foldFG (fun c => FG w E c v) (((near E v).take k).filter fun c => decide (c ≠ u)) (1, -(w.getD v.toNat 0))
theorem NbK.done {w : List Int} {E : List (List Int)} (hg : IsGr w E) {v : Int} {t : List Int} {P R : Int} (hn : NB E (v :: t)) (hv : 0 ≤ v ∧ v < w.length) (H : NbK w E v (t.headD (-1)) (near E v).length P R) : okV w E v (t.headD (-1)) ∧ (R, P) = FG w E v (t.headD (-1)) := by
 have h1 := H.ok
 have h2 := H.val
 rw [List.take_length] at h1 h2
 refine ⟨h1, ?_⟩
 rw [FG_fix hg hn hv]
 show (R, P) = ((foldFG (fun c => FG w E c v) ((near E v).filter fun c => decide (c ≠ t.headD (-1))) (1, -(w.getD v.toNat 0))).2, (foldFG (fun c => FG w E c v) ((near E v).filter fun c => decide (c ≠ t.headD (-1))) (1, -(w.getD v.toNat 0))).1)
 rw [← h2]
end Go.Proofs.YtmgmpnhlehonmaaGreat
