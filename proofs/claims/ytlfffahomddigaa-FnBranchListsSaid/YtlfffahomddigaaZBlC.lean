/- The lists of branches: heads, places, counts. No condition. -/
import Derived.Test.YtlfffahomddigaaZBlB
import Derived.Test.YtlfffahomddigaaZBlK
import Derived.Test.YtlfffahomddigaaZDhA
import Derived.Test.YtlfffahomddigaaZBrW
namespace Go.Proofs.Ytlfffahomddigaa
set_option maxHeartbeats 20000000
set_option linter.unusedVariables false
set_option linter.unusedSimpArgs false
open Go.Pv
open Go.ChangeShapes Go.WideShapes Go.ChangeAt Go.RowKit
attribute [local irreducible] RunU WpA Step CallG CallNG Done DoneN
theorem specR_sub {m : Int} (hm : 0 ≤ m ∧ m ≤ 60) : specR m = (specR 60).filter fun r => decide (muI r ≤ m) := by
  have h := List.all_eq_true.1 eqAll m.toNat (List.mem_range.2 (by omega))
  have e : ((m.toNat : Nat) : Int) = m := by omega
  simp only [decide_eq_true_eq] at h
  rwa [e] at h
theorem filter_eq {m : Int} (hm : 0 ≤ m ∧ m ≤ 60) {u : Int} (hu : u ≤ m) : (specR m).filter (fun r => decide (muI r = u)) = (specR 60).filter fun r => decide (muI r = u) := by
  rw [specR_sub hm, List.filter_filter]
  refine List.filter_congr fun r _ => ?_
  by_cases h : muI r = u
  · have h2 : muI r ≤ m := by omega
    simp [h, hu]
  · simp [h]
theorem bkt_head {α : Type} (key : α → Int) (A : List α) (v : Nat) : ∀ k, ∃ X, bkt key A (v + k) = bkt key A v ++ X
  | 0 => ⟨[], by simp⟩
  | k + 1 => by
    obtain ⟨X, hX⟩ := bkt_head key A v k
    refine ⟨X ++ A.filter fun a => decide (key a = ((v + k : Nat) : Int)), ?_⟩
    rw [show v + (k + 1) = (v + k) + 1 from rfl, bkt_succ, hX, List.append_assoc]
theorem bkt_same {α : Type} {key : α → Int} {A B : List α} : ∀ v : Nat, (∀ u : Nat, u < v → A.filter (fun a => decide (key a = (u : Int))) = B.filter fun a => decide (key a = (u : Int))) → bkt key A v = bkt key B v
  | 0, _ => rfl
  | v + 1, h => by
    rw [bkt_succ, bkt_succ, bkt_same v fun u hu => h u (by omega), h v (by omega)]
theorem specL_head {m : Int} (hm : 0 ≤ m ∧ m ≤ 60) : ∃ X, specL 60 = specL m ++ X := by
  have h1 : specL m = bkt muI (specR 60) (m + 1).toNat := bkt_same _ fun u hu => filter_eq hm (by omega)
  have h2 : specL 60 = bkt muI (specR 60) ((m + 1).toNat + (60 - m).toNat) := by
    rw [show (m + 1).toNat + (60 - m).toNat = 61 by omega]
    rfl
  rw [h1, h2]
  exact bkt_head muI (specR 60) _ _
theorem cmpL_same (a : List Int) : cmpL a a = 0 := by
  have := cmpL_neg a a
  omega
theorem specL_nodup : (specL 60).Nodup := by
  have hL := lists_of (m := 60) (by omega)
  refine hL.perm.nodup_iff.2 ?_
  have h := ok_at (m := 60) (by omega)
  simp only [okB, Bool.and_eq_true, decide_eq_true_eq] at h
  obtain ⟨⟨⟨_, h2⟩, _⟩, _⟩ := h
  refine (chain_pair h2).imp fun {a b} hab => ?_
  rintro rfl
  rw [cmpL_same] at hab
  omega
theorem place_at {m : Int} (hm : 0 ≤ m ∧ m ≤ 60) {i : Nat} (hi : i < (specL m).length) : plcF ((specL m).getD i []) = i := by
  obtain ⟨X, hX⟩ := specL_head hm
  have hg : ∀ k, k < (specL m).length → (specL 60).getD k [] = (specL m).getD k [] := fun k hk => by
    rw [hX, List.getD_eq_getElem?_getD, List.getElem?_append_left hk, ← List.getD_eq_getElem?_getD]
  have hl : (specL m).length ≤ (specL 60).length := by rw [hX, List.length_append]; omega
  have hnd := List.pairwise_iff_getElem.1 specL_nodup
  unfold plcF
  refine fstB_some (by omega) (fun k hk => ?_) ?_
  · rw [hg k (by omega)]
    refine decide_eq_false ?_
    have := hnd k i (by omega) (by omega) hk
    rw [← hg k (by omega), ← hg i hi, List.getD_eq_getElem?_getD, List.getD_eq_getElem?_getD, List.getElem?_eq_getElem (by omega), List.getElem?_eq_getElem (by omega)]
    exact this
  · rw [hg i hi]
    exact decide_eq_true rfl
theorem specL_br {m : Int} (hm : 0 ≤ m ∧ m ≤ 60) {r : List Int} (h : r ∈ specL m) : IsBr r ∧ 0 ≤ muI r ∧ muI r ≤ m := by
  have hL := lists_of hm
  have h2 := hL.perm.mem_iff.1 h
  exact ⟨spec_br hm h2, hL.mu r h2⟩
theorem specL_asc {m : Int} (hm : 0 ≤ m ∧ m ≤ 60) {i j : Nat} (hij : i < j) (hj : j < (specL m).length) : muI ((specL m).getD i []) ≤ muI ((specL m).getD j []) := by
  have hL := lists_of hm
  have h := List.pairwise_iff_getElem.1 hL.sort i j (by omega) hj hij
  rw [List.getD_eq_getElem?_getD, List.getD_eq_getElem?_getD, List.getElem?_eq_getElem (by omega), List.getElem?_eq_getElem hj]
  simp only [Option.getD_some]
  rw [cmpB_eq] at h
  by_cases e : cmpI (muI (specL m)[j]) (muI (specL m)[i]) = 0
  · have := cmpI_zero e; omega
  · rw [if_pos e] at h
    unfold cmpI at h e
    split at h
    · omega
    · split at e
      · omega
      · omega
def cnJ (L : List (List Int)) (j : Nat) : List Int := (List.range 61).map fun k : Nat => (((L.take j).filter fun r => decide (muI r = (k : Int))).length : Int)
theorem cnJ_len (L : List (List Int)) (j : Nat) : (cnJ L j).length = 61 := by simp [cnJ]
theorem cnJ_at (L : List (List Int)) (j : Nat) {k : Nat} (h : k < 61) : (cnJ L j).getD k 0 = (((L.take j).filter fun r => decide (muI r = (k : Int))).length : Int) := by simp [cnJ, List.getD_eq_getElem?_getD, h]
theorem cnJ_le (L : List (List Int)) (j k : Nat) : 0 ≤ (cnJ L j).getD k 0 ∧ (cnJ L j).getD k 0 ≤ L.length := by
  by_cases h : k < 61
  · rw [cnJ_at L j h]
    have h1 := List.length_filter_le (fun r => decide (muI r = (k : Int))) (L.take j)
    rw [List.length_take] at h1
    omega
  · rw [List.getD_eq_getElem?_getD, List.getElem?_eq_none (by rw [cnJ_len]; omega)]
    simp
theorem cnJ_step {L : List (List Int)} {j : Nat} (hj : j < L.length) (hm : 0 ≤ muI (L.getD j []) ∧ muI (L.getD j []) ≤ 60) : (cnJ L j).set (muI (L.getD j [])).toNat ((cnJ L j).getD (muI (L.getD j [])).toNat 0 + 1) = cnJ L (j + 1) := by
  have e : L[j] = L.getD j [] := by simp [List.getD, hj]
  refine List.ext_getElem (by simp [cnJ_len]) fun k h1 h2 => ?_
  have h3 : k < 61 := by rw [List.length_set, cnJ_len] at h1; exact h1
  have a1 : (cnJ L j)[k]'(by rw [cnJ_len]; exact h3) = (cnJ L j).getD k 0 := by simp [List.getD, cnJ_len, h3]
  have a2 : (cnJ L (j + 1))[k]'h2 = (cnJ L (j + 1)).getD k 0 := by simp [List.getD, cnJ_len, h3]
  rw [List.getElem_set, a2, cnJ_at _ _ h3, List.take_add_one, List.getElem?_eq_getElem hj, e, List.filter_append, List.length_append]
  clear e
  generalize L.getD j [] = r at *
  by_cases hk : (muI r).toNat = k
  · rw [if_pos hk, hk, cnJ_at _ _ h3]
    have : muI r = (k : Int) := by omega
    simp [this]
  · rw [if_neg hk, a1, cnJ_at _ _ h3]
    have : ¬ muI r = (k : Int) := by omega
    simp [this]
theorem cnJ_end {m k : Int} (hm : 0 ≤ m ∧ m ≤ 60) (hk : 0 ≤ k ∧ k ≤ m) : (cnJ (specL m) (specL m).length).getD k.toNat 0 = cntB k := by
  rw [cnJ_at _ _ (by omega), List.take_length]
  have hL := lists_of hm
  unfold cntB cntM
  rw [if_pos (by omega), filter_eq (m := k) (by omega) (Int.le_refl k), ← filter_eq hm hk.2]
  rw [show ((k.toNat : Nat) : Int) = k by omega]
  rw [(hL.perm.filter _).length_eq]
theorem plc_spec {T : List Int} (h : IsBr T) : (plcC T = 0 ↔ muI T ≤ 60) ∧ (plcC T = 0 ∨ plcC T = 4) := by
  unfold plcC
  rw [if_pos h]
  have h1 := list_mem h
  have h2 : plcF T < 0 ↔ ¬ T ∈ specL 60 := by
    unfold plcF fstB
    cases hf : (specL 60).findIdx? (fun x => decide (x = T)) with
    | none =>
      simp only
      have := List.findIdx?_eq_none_iff.1 hf
      refine ⟨fun _ hm => ?_, fun _ => by omega⟩
      have := this T hm
      simp at this
    | some k =>
      simp only
      obtain ⟨q1, q2, _⟩ := List.findIdx?_eq_some_iff_getElem.1 hf
      refine ⟨fun q => by omega, fun q => absurd ?_ q⟩
      have : (specL 60)[k] = T := by simpa using q2
      rw [← this]
      exact List.getElem_mem q1
  by_cases h3 : plcF T < 0
  · rw [if_pos h3]
    have := h2.1 h3
    rw [h1] at this
    omega
  · rw [if_neg h3]
    have : T ∈ specL 60 := Classical.byContradiction fun q => h3 (h2.2 q)
    rw [h1] at this
    simp [this]
theorem brs_of {n t : Int} {x : List Int} (h : x ∈ brsIn n t) : IsBr x ∧ x.getD 0 0 = n ∧ (x.getD (x.length - 1) 0 ≤ t) := by
  unfold brsIn at h
  split at h
  · rename_i hnt
    obtain ⟨rest, rfl, he⟩ := within_of _ _ _ _ _ h
    have hb := Pre.ext (t := t) (by omega) rest [n] n (pre_one (by omega)) he
    refine ⟨hb, by simp, ?_⟩
    have := ext_last rest [n] n t he
    unfold lastOf at this
    rcases this with h2 | h2
    · exact h2
    · subst h2
      have he : n = 1 := he
      simp
      omega
  · simp at h
end Go.Proofs.Ytlfffahomddigaa
