/- The program's counter of numbers. No condition. -/
import Derived.Test.YtleleajafgmpbaaVPwI
import Derived.Test.YtleleajafgmpbaaVSpA
import Derived.Shelf.Spec.SlicesInsert
import Derived.Lib.AppendZerosOnto
import Derived.Laws.NewBlocks
import Derived.Test.YtleleajafgmpbaaVZcA
namespace Go.Proofs.Ytleleajafgmpbaa
set_option maxHeartbeats 20000000
set_option linter.unusedVariables false
set_option linter.unusedSimpArgs false
open Go.Pv
open Go.ChangeShapes Go.WideShapes Go.ChangeAt Go.RowKit
attribute [local irreducible] RunU WpA Step CallG CallNG Done DoneN
open Go.Lib
abbrev nilV : Value := .slice none 0 0
theorem mixedO : Try.prog.follows .mixedOrders = true := by kernel_rfl
theorem info22 : (Try.prog.info? 22).map (fun i => (i.zero, i.size, i.bytes)) = some (some nilV, 1, 24) := by kernel_rfl
set_option maxHeartbeats 4000000 in
set_option maxRecDepth 100000 in
theorem ins_end_room (b n c vb vc : Nat) (u : Value) (w : World) (hroom : n + 1 ≤ c) (hc63 : c ≤ 9223372036854775807) (hsp : (w.cell? ⟨b, n, none⟩).isSome = true) (hfz : w.frozen? ⟨b, n, none⟩ = false) (hvs : w.cell? ⟨vb, 0, none⟩ = some u) (h1 : u.oneCell' = true) :
    Calls Try.prog 77 #[.slice (some ⟨b, 0, none⟩) n c, .int .i64 n, .slice (some ⟨vb, 0, none⟩) 1 vc] w fun e w' =>
      e = .returned (.slice (some ⟨b, 0, none⟩) (n + 1) c) ∧ w' = w.setCells b n [u] := by
  have hsrc : Src Try.prog 1 26 (.slice (some ⟨vb, 0, none⟩) 1 vc) 1 [u] w := Src.ofSlice w Try.underlying26 ⟨vb, 0, none⟩ 1 vc [u] (by simp) (fun j v hj => by
    rw [Addr.add_lit]
    match j, hj with
    | 0, hj => simp at hj; subst hj; exact hvs) (by simpa using h1)
  go_enter Try.func77, Try.ntmps77
  go_wp2_with (at_builtin; refine wpList_append_room1 _ rfl _ _ 26 26 rfl 22 _ _ Try.underlying26 info22 b 0 n c rfl _ rfl 1 [u] hsrc hroom (by intro j hj; simp at hj; subst hj; simpa using hsp) (by intro j hj; simp at hj; subst hj; simpa using hfz) ?_)
  go_ret
  exact ⟨rfl, by simp⟩
set_option maxHeartbeats 4000000 in
set_option maxRecDepth 100000 in
theorem ins_end_grow (base : Option Addr) (n c vb vc : Nat) (cs : List Value) (u : Value) (w : World) (hnc : n ≤ c) (hroom : c < n + 1) (hbig : n + 1 ≤ 1000000000) (hcl : cs.length = n) (hnil : base = none → n = 0) (hsp : ∀ a, base = some a → a.spot = none)
    (hcs : ∀ a, base = some a → ∀ j v, cs[j]? = some v → w.cell? (a.add j) = some v) (hvs : w.cell? ⟨vb, 0, none⟩ = some u) (h1 : u.oneCell' = true) :
    Calls Try.prog 77 #[.slice base n c, .int .i64 n, .slice (some ⟨vb, 0, none⟩) 1 vc] w fun e w' =>
      e = .returned (.slice (some ⟨w.heap.size, 0, none⟩) (n + 1) (grownCap w (n + 1) c 22)) ∧
      w' = w.drew.alloc (.cells ((cs ++ [u]).toArray ++ Builtin.zeroCells nilV.cells (grownCap w (n + 1) c 22 - (n + 1))) 22) := by
  obtain ⟨i0, hi0, hz0, hzs, hzb⟩ := info_parts info22
  have hsrc : Src Try.prog i0.size 26 (.slice (some ⟨vb, 0, none⟩) 1 vc) 1 [u] w := by
    rw [hzs]
    refine Src.ofSlice w Try.underlying26 ⟨vb, 0, none⟩ 1 vc [u] (by simp) (fun j v hj => ?_) (by simpa using h1)
    rw [Addr.add_lit]
    match j, hj with
    | 0, hj => simp at hj; subst hj; exact hvs
  have hold : (Builtin.firstCells i0.size n (.slice base n c)).run Try.prog w.drew = .ok cs.toArray w.drew := by
    rw [hzs]
    cases base with
    | none =>
      have h0 := hnil rfl
      subst h0
      rw [List.length_eq_zero_iff.1 hcl]
      exact run_firstCells_none w.drew 1 0 0 c
    | some a => exact run_firstCells_some w.drew 1 n a n c cs (by omega) (fun j v hj => hcs a rfl j v hj)
  have hrun : ∀ ty, (Builtin.append_ #[26, 26] ty #[.slice base n c, .slice (some ⟨vb, 0, none⟩) 1 vc]).run Try.prog w = _ := fun ty =>
    run_append_grow_src w 26 26 ty 22 i0 _ Try.underlying26 hi0 hz0 base n c cs hold _ 1 [u] hsrc hroom (by omega) (by rw [hzb]; exact growslice_fits hroom (by omega))
  cases base with
  | none =>
    have h0 := hnil rfl
    subst h0
    go_enter Try.func77, Try.ntmps77
    go_wp2_with (at_builtin; refine Lib.wpList_append_run _ rfl _ _ _ _ rfl _ _ rfl rfl _ _ (hrun _) ?_)
    go_ret
    exact ⟨rfl, rfl⟩
  | some a =>
    obtain ⟨ab, ao, asp⟩ := a
    have := hsp _ rfl
    simp only at this
    subst this
    go_enter Try.func77, Try.ntmps77
    go_wp2_with (at_builtin; refine Lib.wpList_append_run _ rfl _ _ _ _ rfl _ _ rfl rfl _ _ (hrun _) ?_)
    all_goals (go_ret; exact ⟨rfl, rfl⟩)
set_option maxHeartbeats 4000000 in
set_option maxRecDepth 100000 in
theorem ins_shift (b n c i vb vc : Nat) (cs : List Value) (u : Value) (w : World) (hi : i < n) (hroom : n + 1 ≤ c) (hc63 : c ≤ 9223372036854775807) (hvb : vb ≠ b) (hcl : cs.length = n)
    (hcs : ∀ j v, cs[j]? = some v → w.cell? ⟨b, j, none⟩ = some v) (hsp : ∀ j, j < n + 1 → (w.cell? ⟨b, j, none⟩).isSome = true) (hfz : ∀ j, j < n + 1 → w.frozen? ⟨b, j, none⟩ = false)
    (hvs : w.cell? ⟨vb, 0, none⟩ = some u) (h1c : ∀ v ∈ cs, v.oneCell' = true) (h1 : u.oneCell' = true)
    (tA tB : TypeId) (kA kB : Nat) (hsa : w.shape? vb = some (tA, kA)) (hsb : w.shape? b = some (tB, kB)) (hkB : kB ≠ 0) (hfa : w.frozen? ⟨vb, 0, none⟩ = false) (hfe : w.frozen? ⟨vb, kA, none⟩ = false) :
    Calls Try.prog 77 #[.slice (some ⟨b, 0, none⟩) n c, .int .i64 i, .slice (some ⟨vb, 0, none⟩) 1 vc] w fun e w' =>
      e = .returned (.slice (some ⟨b, 0, none⟩) (n + 1) c) ∧ w' = (w.drew.setCells b (i + 1) (cs.drop i)).setCells b i [u] := by
  have hz2 : ¬ ((i : Int) = (n : Int)) := by omega
  have hsz : (Try.prog.info? 22).map (·.size) = some 1 := by
    obtain ⟨i0, hi0, h0, h1, h2⟩ := info_parts info22
    rw [hi0]; simp [h1]
  have hov : ∀ lb cb, (callFunc 95 #[.slice (some ⟨vb, 0, none⟩) 1 vc, .slice (some ⟨b, i + 1, none⟩) lb cb]).run Try.prog w = .ok (.value (.bool false)) w := fun lb cb => by
    rw [run_callFunc_extern Try.func95 (by kernel_rfl) (by kernel_rfl) (by kernel_rfl) (e := Extern.SlicesOverlaps.overlaps #[26, 26] #[4]) (by kernel_rfl),
      Lib.run_overlaps_apart w 26 4 22 Try.underlying26 1 Try.sizeOf22 ⟨vb, 0, none⟩ ⟨b, i + 1, none⟩ 1 vc lb cb hvb tA tB kA kB hsa hsb hkB hfa hfe]
    rfl
  have hdl : (cs.drop i).length = n - i := by rw [List.length_drop, hcl]
  have hw1 : IntKind.i64.wrap ((i : Int) + 1) = (i : Int) + 1 := by rw [IntKind.wrap_i64]; omega
  have hb1 : (0 : Int) ≤ (i : Int) + 1 := by omega
  have hin : i ≤ n := by omega
  have htn : ((i : Int) + 1).toNat = i + 1 := by omega
  have hb2 : ¬ (c = i + 1) := by omega
  have hb3 : (i : Int) ≤ (n : Int) + 1 := by omega
  have hb4 : ¬ (c = i) := by omega
  have hcp1 : ∀ ty dc sc, (Builtin.copy_ #[26, 26] ty #[.slice (some ⟨b, i + 1, none⟩) (n + 1 - (i + 1)) dc, .slice (some ⟨b, i, none⟩) (n + 1 - i) sc]).run Try.prog w.drew = .ok (goInt (cs.drop i).length) (w.drew.setCells b (i + 1) (cs.drop i)) := fun ty dc sc =>
    run_copy_cells w.drew _ _ ty 22 b (i + 1) (n + 1 - (i + 1)) dc ⟨b, i, none⟩ (n + 1 - i) sc (cs.drop i) Try.underlying26 hsz (by rw [hdl]; simp only [Nat.min_def]; split <;> omega)
      (fun j v hj => by rw [Addr.add_lit]; exact hcs (i + j) v (by rwa [List.getElem?_drop] at hj))
      (fun j hj => hsp _ (by omega)) (fun j hj => hfz _ (by omega)) (fun v hv => h1c v (List.mem_of_mem_drop hv))
  obtain ⟨W1, hW1⟩ : ∃ W1, W1 = w.drew.setCells b (i + 1) (cs.drop i) := ⟨_, rfl⟩
  have hsp1 : ∀ k, k < n + 1 → (W1.cell? ⟨b, k, none⟩).isSome = true := fun k hk => by
    rw [hW1]
    exact Go.Proofs.isSome_setCells b (cs.drop i) (i + 1) w.drew (fun j hj => hsp _ (by omega)) _ (hsp k hk)
  have hcp2 : ∀ (W : World), (∀ x, W.cell? x = W1.cell? x) → (∀ x, W.frozen? x = W1.frozen? x) → ∀ ty dc, (Builtin.copy_ #[26, 26] ty #[.slice (some ⟨b, i, none⟩) (n + 1 - i) dc, .slice (some ⟨vb, 0, none⟩) 1 vc]).run Try.prog W = .ok (goInt 1) (W.setCells b i [u]) := fun W hWc hWf ty dc =>
    run_copy_cells W _ _ ty 22 b i (n + 1 - i) dc ⟨vb, 0, none⟩ 1 vc [u] Try.underlying26 hsz (by simp only [List.length_singleton, Nat.min_def]; split <;> omega)
      (fun j v hj => by
        rw [Addr.add_lit, hWc, hW1, World.cell?_setCells_out b _ _ _ _ (fun h _ => absurd h hvb)]
        match j, hj with
        | 0, hj => simp at hj; subst hj; exact hvs)
      (fun j hj => by rw [hWc]; exact hsp1 _ (by simp at hj; omega)) (fun j hj => by rw [hWf, hW1, World.frozen?_setCells]; exact hfz _ (by simp at hj; omega)) (by simpa using h1)
  rw [← hW1, show n + 1 - (i + 1) = n - i by omega] at hcp1
  have mixed := mixedO
  go_enter Try.func77, Try.ntmps77
  go_wp2_with (simp only [hov])
  go_region_law_o (refine Go.Proofs.step_copy_runI rfl _ _ 26 26 rfl _ _ (by simp [Act.eval, Act.put]) (by simp [Act.eval, Act.put]) (hcp1 _ _ _) ?_)
  go_wp2_with (at_builtin; refine Go.Proofs.wpList_copy_runI _ rfl _ _ 26 26 rfl _ _ rfl rfl (hcp2 _ (fun _ => rfl) (fun _ => rfl) _ _) ?_)
  go_ret
  first | exact ⟨rfl, rfl⟩ | exact ⟨rfl, by rw [hW1]⟩
set_option maxHeartbeats 4000000 in
set_option maxRecDepth 100000 in
theorem ins_grow (b n c i vb vc : Nat) (cs : List Value) (u : Value) (w : World) (hi : i < n) (hnc : n ≤ c) (hroom : c < n + 1) (hbig : n + 1 ≤ 1000000000) (hcl : cs.length = n)
    (hcs : ∀ j v, cs[j]? = some v → w.cell? ⟨b, j, none⟩ = some v) (hvs : w.cell? ⟨vb, 0, none⟩ = some u) (h1c : ∀ v ∈ cs, v.oneCell' = true) (h1 : u.oneCell' = true) :
    Calls Try.prog 77 #[.slice (some ⟨b, 0, none⟩) n c, .int .i64 i, .slice (some ⟨vb, 0, none⟩) 1 vc] w fun e w' =>
      e = .returned (.slice (some ⟨w.heap.size, 0, none⟩) (n + 1) (grownCap w (n + 1) c 22)) ∧
      w' = (((w.alloc (.cells ((cs.take i).toArray ++ Builtin.zeroCells nilV.cells (n + 1 - i) ++ Builtin.zeroCells nilV.cells (grownCap w (n + 1) c 22 - (n + 1))) 22)).drew.setCells w.heap.size i [u]).drew).setCells w.heap.size (i + 1) (cs.drop i) := by
  obtain ⟨i0, hi0, hz0, hzs, hzb⟩ := info_parts info22
  have mixed := mixedO
  have hz2 : ¬ ((i : Int) = (n : Int)) := by omega
  have hz3 : (c : Int) < (n : Int) + 1 := by omega
  have hsz : (Try.prog.info? 22).map (·.size) = some 1 := by rw [hi0]; simp [hzs]
  have hbw : b < w.heap.size := block_lt_of_cell (hcs 0 _ (List.getElem?_eq_getElem (by omega)))
  have hvw : vb < w.heap.size := block_lt_of_cell hvs
  have hkk : (n : Int) + 1 - (i : Int) = ((n + 1 - i : Nat) : Int) := by omega
  have hik : i + (n + 1 - i) = n + 1 := by omega
  have hold : (Builtin.firstCells i0.size i (.slice (some ⟨b, 0, none⟩) i c)).run Try.prog w.drew = .ok (cs.take i).toArray w.drew := by
    rw [hzs]
    exact run_firstCells_some w.drew 1 i ⟨b, 0, none⟩ i c (cs.take i) (by rw [List.length_take]; omega) (fun j v hj => by
      rw [Addr.add_lit, Nat.zero_add]
      rw [List.getElem?_take] at hj
      split at hj
      · exact hcs j v hj
      · cases hj)
  have hrz : ∀ ty, (Builtin.append_ #[26, 3] ty #[.slice (some ⟨b, 0, none⟩) i c, .int .i64 ((n : Int) + 1 - (i : Int))]).run Try.prog w =
      .ok (.slice (some ⟨w.heap.size, 0, none⟩) (n + 1) (grownCap w (n + 1) c 22)) (w.drew.alloc (.cells ((cs.take i).toArray ++ Builtin.zeroCells nilV.cells (n + 1 - i) ++ Builtin.zeroCells nilV.cells (grownCap w (n + 1) c 22 - (n + 1))) 22)) := fun ty => by
    have h := Lib.run_append_grow_zeros w 26 3 ty 22 i0 _ .i64 .i64 Try.underlying26 Try.underlying3 hi0 hz0 (some ⟨b, 0, none⟩) i c (cs.take i) hold (n + 1 - i) (by omega) (by omega) (by omega) (by omega) (by rw [hzb]; omega) (by rw [hzb, hik]; exact growslice_fits hroom (by omega))
    rw [hik] at h
    rw [hkk]
    exact h
  obtain ⟨G, hG⟩ : ∃ G, G = grownCap w (n + 1) c 22 := ⟨_, rfl⟩
  obtain ⟨ROW, hROW⟩ : ∃ ROW : Array Value, ROW = (cs.take i).toArray ++ Builtin.zeroCells nilV.cells (n + 1 - i) ++ Builtin.zeroCells nilV.cells (G - (n + 1)) := ⟨_, rfl⟩
  rw [← hG] at hrz ⊢
  rw [← hROW] at hrz ⊢
  have hRl : n + 1 ≤ ROW.size := by
    rw [hROW]
    simp [Builtin.zeroCells, Value.cells]
    omega
  obtain ⟨W1, hW1⟩ : ∃ W1, W1 = w.drew.alloc (.cells ROW 22) := ⟨_, rfl⟩
  rw [← hW1] at hrz
  have hN : ∀ j, j < n + 1 → (W1.cell? ⟨w.heap.size, j, none⟩).isSome = true := fun j hj => by
    rw [hW1, World.cell?_alloc_at (w := w.drew) ROW _ w.heap.size j rfl, Array.getElem?_eq_getElem (by omega)]; rfl
  have hNf : ∀ j, W1.frozen? ⟨w.heap.size, j, none⟩ = false := fun j => by rw [hW1]; exact World.frozen?_alloc_at (w := w.drew) ROW _ w.heap.size j rfl
  have hOb : ∀ j v, w.cell? ⟨b, j, none⟩ = some v → W1.cell? ⟨b, j, none⟩ = some v := fun j v h => by rw [hW1, World.cell?_alloc_past (w := w.drew) _ b j hbw]; exact h
  have hOv : ∀ j v, w.cell? ⟨vb, j, none⟩ = some v → W1.cell? ⟨vb, j, none⟩ = some v := fun j v h => by rw [hW1, World.cell?_alloc_past (w := w.drew) _ vb j hvw]; exact h
  have hcpA : ∀ (W : World), (∀ x, W.cell? x = W1.cell? x) → (∀ x, W.frozen? x = W1.frozen? x) → ∀ ty dc, (Builtin.copy_ #[26, 26] ty #[.slice (some ⟨w.heap.size, i, none⟩) (n + 1 - i) dc, .slice (some ⟨vb, 0, none⟩) 1 vc]).run Try.prog W = .ok (goInt 1) (W.setCells w.heap.size i [u]) := fun W hWc hWf ty dc =>
    run_copy_cells W _ _ ty 22 w.heap.size i (n + 1 - i) dc ⟨vb, 0, none⟩ 1 vc [u] Try.underlying26 hsz (by simp only [List.length_singleton, Nat.min_def]; split <;> omega)
      (fun j v hj => by
        rw [Addr.add_lit, hWc]
        match j, hj with
        | 0, hj => simp at hj; subst hj; exact hOv _ _ hvs)
      (fun j hj => by rw [hWc]; exact hN _ (by simp at hj; omega)) (fun j hj => by rw [hWf]; exact hNf _) (by simpa using h1)
  have hGn : n + 1 ≤ G := by rw [hG]; exact grownCap_ge w _ _ _
  have hG63 : G ≤ 9223372036854775807 := by
    have := grownCap_le_maxLen w (n + 1) c 22 (by unfold maxLen; omega)
    rw [← hG] at this
    unfold maxLen at this
    omega
  have hGi : ¬ (G = i) := by omega
  have hGim : ¬ (G = i + 1) := by omega
  have hci : ¬ (c = i) := by omega
  have hbN : b ≠ w.heap.size := by omega
  have hdl : (cs.drop i).length = n - i := by rw [List.length_drop, hcl]
  have hcpB : ∀ (W : World), (∀ x, W.cell? x = (W1.setCells w.heap.size i [u]).cell? x) → (∀ x, W.frozen? x = (W1.setCells w.heap.size i [u]).frozen? x) → ∀ ty dc sc, (Builtin.copy_ #[26, 26] ty #[.slice (some ⟨w.heap.size, i + 1, none⟩) (n + 1 - (i + 1)) dc, .slice (some ⟨b, i, none⟩) (n - i) sc]).run Try.prog W = .ok (goInt (cs.drop i).length) (W.setCells w.heap.size (i + 1) (cs.drop i)) := fun W hWc hWf ty dc sc =>
    run_copy_cells W _ _ ty 22 w.heap.size (i + 1) (n + 1 - (i + 1)) dc ⟨b, i, none⟩ (n - i) sc (cs.drop i) Try.underlying26 hsz (by rw [hdl]; simp only [Nat.min_def]; split <;> omega)
      (fun j v hj => by
        rw [Addr.add_lit, hWc, World.cell?_setCells_out _ _ _ _ _ (fun h _ => absurd h hbN)]
        exact hOb _ v (hcs (i + j) v (by rwa [List.getElem?_drop] at hj)))
      (fun j hj => by rw [hWc]; exact Go.Proofs.isSome_setCells _ _ _ _ (fun t ht => hN _ (by simp at ht; omega)) _ (hN _ (by omega)))
      (fun j hj => by rw [hWf, World.frozen?_setCells]; exact hNf _) (fun v hv => h1c v (List.mem_of_mem_drop hv))
  subst hW1
  have hE1 : ∀ x, ((w.alloc (.cells ROW 22)).drew).cell? x = (w.drew.alloc (.cells ROW 22)).cell? x := fun x => rfl
  have hE2 : ∀ x, ((w.alloc (.cells ROW 22)).drew).frozen? x = (w.drew.alloc (.cells ROW 22)).frozen? x := fun x => rfl
  have hF1 : ∀ x, (((w.alloc (.cells ROW 22)).drew.setCells w.heap.size i [u]).drew).cell? x = ((w.drew.alloc (.cells ROW 22)).setCells w.heap.size i [u]).cell? x := fun x => rfl
  have hF2 : ∀ x, (((w.alloc (.cells ROW 22)).drew.setCells w.heap.size i [u]).drew).frozen? x = ((w.drew.alloc (.cells ROW 22)).setCells w.heap.size i [u]).frozen? x := fun x => rfl
  have hw1 : IntKind.i64.wrap ((i : Int) + 1) = (i : Int) + 1 := by rw [IntKind.wrap_i64]; omega
  have hb1 : (0 : Int) ≤ (i : Int) + 1 := by omega
  have hin : i ≤ n := by omega
  have htn : ((i : Int) + 1).toNat = i + 1 := by omega
  have hb3 : (i : Int) ≤ (n : Int) := by omega
  clear hkk hik hold hROW hG hRl
  go_enter Try.func77, Try.ntmps77
  go_wp2_with (first
    | (at_builtin; refine Lib.wpList_append_run _ rfl _ _ _ _ rfl _ _ rfl rfl _ _ (hrz _) ?_)
    | (at_builtin; refine Go.Proofs.wpList_copy_runI _ rfl _ _ 26 26 rfl _ _ rfl rfl (hcpA _ hE1 hE2 _ _) ?_)
    | (at_builtin; refine Go.Proofs.wpList_copy_runI _ rfl _ _ 26 26 rfl _ _ rfl rfl (hcpB _ (fun _ => rfl) (fun _ => rfl) _ _ _) ?_))
  go_region_law_o (refine Go.Proofs.step_copy_runI rfl _ _ 26 26 rfl (.slice (some ⟨w.heap.size, i + 1, none⟩) (n + 1 - (i + 1)) (G - (i + 1))) (.slice (some ⟨b, i, none⟩) (n - i) (c - i)) (by simp [Act.eval, Act.put]) (by simp [Act.eval, Act.put]) (hcpB _ hF1 hF2 3 (G - (i + 1)) (c - i)) ?_)
  go_wp2
  go_ret
  exact ⟨rfl, rfl⟩
end Go.Proofs.Ytleleajafgmpbaa
namespace Go.Proofs.Ytleleajafgmpbaa
set_option maxHeartbeats 20000000
set_option linter.unusedVariables false
set_option linter.unusedSimpArgs false
open Go.Pv
open Go.ChangeShapes Go.WideShapes Go.ChangeAt Go.RowKit
attribute [local irreducible] RunU WpA Step CallG CallNG Done DoneN
theorem row_cells {w : World} {g : Nat} {cur : Array Value} {e : TypeId} (h : w.heap[g]? = some (.cells cur e (0, 0))) {us : List Value} {n : Nat} (h7 : cur.toList.take n = us) {j : Nat} {v : Value} (hj : us[j]? = some v) : w.cell? ⟨g, j, none⟩ = some v := by
  rw [cell_of_row w g j cur e (0, 0) h]
  rw [← h7, List.getElem?_take] at hj
  split at hj
  · simpa using hj
  · cases hj
theorem row_frozen {w : World} {g : Nat} {cur : Array Value} {e : TypeId} (h : w.heap[g]? = some (.cells cur e (0, 0))) (j : Nat) : w.frozen? ⟨g, j, none⟩ = false := by simp [World.frozen?, h]
theorem row_some {w : World} {g : Nat} {cur : Array Value} {e : TypeId} (h : w.heap[g]? = some (.cells cur e (0, 0))) {j : Nat} (hj : j < cur.size) : (w.cell? ⟨g, j, none⟩).isSome = true := by
  rw [cell_of_row w g j cur e (0, 0) h, Array.getElem?_eq_getElem hj]; rfl
theorem insB {A : List RV} {q : RV} {i : Nat} : (A.take i ++ q :: A.drop i).Perm (A ++ [q]) := by
  refine List.perm_middle.trans ?_
  rw [List.take_append_drop]
  exact (List.perm_append_comm (l₁ := [q]) (l₂ := A))
theorem insert_c (R : List (List Int)) (i : Nat) (r : List Int) (hi : i ≤ R.length) (hl : R.length ≤ 1000000) :
    CallA Try.prog 77 [.mv (.one (.sl true 1 (LL R))), aI i, .mv (.one (.sl true 1 (LL [r])))] [rLL (R.take i ++ r :: R.drop i)] [] := by
  unfold CallA CallG
  intro w vs M F hF hargs hnd hM
  simp only [ArgsR, ArgR, VR, RD] at hargs
  obtain ⟨v, us0, L1, L2, rfl, rfl, ⟨r1, ev, us, L0, Lp, rfl, hrow, hrds⟩, vi, us1, L3, L4, rfl, rfl, ⟨rfl, _, rfl, _⟩, v2, us2, L5, L6, rfl, rfl, ⟨r3, ev2, us3, M0, Mp, rfl, hrow2, hrds2⟩, rfl, rfl⟩ := hargs
  simp only [List.append_nil, List.nil_append] at hnd hM hF ⊢
  obtain ⟨τ, e1, rfl, hpool⟩ := rds_pool R _ _ _ _ hrds
  obtain ⟨A, rfl⟩ := pool_rvs hpool
  obtain ⟨τ2, e2, rfl, hpool2⟩ := rds_pool [r] _ _ _ _ hrds2
  obtain ⟨A2, rfl⟩ := pool_rvs hpool2
  have hA1 : (A.map RV.pr).map Prod.fst = A.map RV.v := by rw [List.map_map]; rfl
  have hA2 : rowsOf A = R := by rw [← e1, List.map_map]; rfl
  have hB2 : rowsOf A2 = [r] := by rw [← e2, List.map_map]; rfl
  have hB1 : (A2.map RV.pr).map Prod.fst = A2.map RV.v := by rw [List.map_map]; rfl
  rw [hA1] at hrow
  rw [hB1] at hrow2
  have hlen : A.length = R.length := by rw [← hA2]; simp [rowsOf]
  obtain ⟨q, rfl⟩ : ∃ q, A2 = [q] := by
    have : A2.length = 1 := by have := congrArg List.length hB2; simpa [rowsOf] using this
    match A2, this with
    | [q], _ => exact ⟨q, rfl⟩
  have hqr : q.r = r := by simpa [rowsOf] using hB2
  rcases hrow2 with ⟨_, e0, _⟩ | ⟨vb, m, vc, vcur, vety, rfl, g2, g3, g4, g5, g6, g7, rfl⟩
  · simp at e0
  have hm1 : m = 1 := by simpa using g3
  subst hm1
  have hvs : w.cell? ⟨vb, 0, none⟩ = some q.v := row_cells g2 g7 (by simp)
  have hLsub : ∀ g, g ∈ L0 ∨ g ∈ Lp ∨ g = vb ∨ g ∈ Mp → g < w.heap.size := fun g hg => hM g (by
    simp only [List.mem_append, List.mem_singleton]
    rcases hg with h | h | h | h
    · exact .inl (.inl h)
    · exact .inl (.inr h)
    · exact .inr (.inl h)
    · exact .inr (.inr h))
  simp only [List.nodup_append, List.mem_append, List.mem_singleton] at hnd
  obtain ⟨⟨nd0, ndp, d0p⟩, ⟨_, ndm, dvm⟩, dd⟩ := hnd
  have hone : ∀ v ∈ A.map RV.v, v.oneCell' = true := fun v hv => by
    obtain ⟨a, _, rfl⟩ := List.mem_map.1 hv; exact a.one
  have hBR : rowsOf (A.take i ++ q :: A.drop i) = R.take i ++ r :: R.drop i := by
    rw [← hA2, ← hqr]
    simp [rowsOf, List.map_take, List.map_drop]
  -- what is left to show, once the new slice is there
  have fin : ∀ (w' : World) (v' : Value) (Ln : List Nat), Keep w L0 w' → Row w' v' 1 ((A.take i ++ q :: A.drop i).map RV.v) Ln → (∀ g ∈ Ln, (g ∈ L0 ∨ w.heap.size ≤ g) ∧ g < w'.heap.size) → Ln.Nodup →
      ∃ us Lr Lo, Ending.returned v' = .returned (retVal us) ∧ Keep w (L0 ++ Lp ++ ([vb] ++ Mp)) w' ∧ VRs (Res true F) w' [rLL (R.take i ++ r :: R.drop i)] us Lr ∧
        OutsR (Res true F) w' [.mv (.one (.sl true 1 (LL R))), aI i, .mv (.one (.sl true 1 (LL [r])))] [v, .int .i64 i, .slice (some ⟨vb, 0, none⟩) 1 vc] [] Lo ∧ (Lr ++ Lo).Nodup ∧
        ∀ g ∈ Lr ++ Lo, g < w'.heap.size ∧ (g ∈ L0 ++ Lp ++ ([vb] ++ Mp) ∨ w.heap.size ≤ g) := by
    intro w' v' Ln hk hrow' hLn hndn
    have hpoolA : Pool w' ((A ++ [q]).map RV.pr) (Lp ++ Mp) := by
      rw [List.map_append]
      refine Pool.append (hpool.same fun g hg => hk.block g (hLsub g (.inr (.inl hg))) (fun h => d0p g h g hg rfl)) (hpool2.same fun g hg => hk.block g (hLsub g (.inr (.inr (.inr hg)))) (fun h => dd g (.inl h) g (.inr hg) rfl))
    obtain ⟨Lq, hpq, hperm⟩ := hpoolA.perm ((insB (A := A) (q := q) (i := i)).symm.map RV.pr)
    have hmix : Mixd (vals (A.take i ++ q :: A.drop i)) ((A.take i ++ q :: A.drop i).map RV.pr) (rowsOf (A.take i ++ q :: A.drop i)) := by
      have := Mixd.lits ((A.take i ++ q :: A.drop i).map RV.pr)
      rw [List.map_map, List.map_map, List.map_map] at this
      exact this
    have hrd0 : RD (Res true F) w' (.sl true 1 (vals (A.take i ++ q :: A.drop i))) (fun _ => v') v' Ln := by
      simp only [RD]
      exact ⟨trivial, _, Ln, [], by simp, hrow', RDs_of_rv _ _ _⟩
    obtain ⟨rz, Lz, hrd, hpz⟩ := rd_close (F' := Res true F) hrd0 hpq hmix
    rw [hBR] at hrd
    have hmem : ∀ g, g ∈ Lz → g ∈ Ln ∨ g ∈ Lp ∨ g ∈ Mp := fun g hg => by
      rw [hpz.mem_iff, List.mem_append, hperm.symm.mem_iff, List.mem_append] at hg
      exact hg
    refine ⟨[v'], Lz, [], rfl, ⟨hk.os, hk.tape, hk.output, hk.size, fun g hg hgM => hk.block g hg (fun h => hgM (by simp [h])), hk.drawn⟩, ?_, ?_, ?_, ?_⟩
    · simp only [VRs, VR]
      exact ⟨v', [], Lz, [], rfl, by simp, ⟨rz, hrd⟩, rfl, rfl⟩
    · simp only [OutsR]
      exact ⟨_, _, rfl, _, _, rfl, _, _, rfl, by simp⟩
    · rw [List.append_nil]
      refine hpz.nodup_iff.2 ?_
      rw [List.nodup_append]
      refine ⟨hndn, hperm.nodup_iff.1 (by rw [List.nodup_append]; exact ⟨ndp, ndm, fun g h1 g' h2 e => dd g (.inr h1) g' (.inr h2) e⟩), fun g h1 g' h2 e => ?_⟩
      subst e
      rw [hperm.symm.mem_iff, List.mem_append] at h2
      rcases (hLn g h1).1 with h3 | h3
      · rcases h2 with h2 | h2
        · exact d0p g h3 g h2 rfl
        · exact dd g (.inl h3) g (.inr h2) rfl
      · rcases h2 with h2 | h2
        · have := hLsub g (.inr (.inl h2)); omega
        · have := hLsub g (.inr (.inr (.inr h2))); omega
    · intro g hg
      rw [List.append_nil] at hg
      rcases hmem g hg with h | h | h
      · refine ⟨(hLn g h).2, ?_⟩
        rcases (hLn g h).1 with h3 | h3
        · exact .inl (by simp [h3])
        · exact .inr h3
      · exact ⟨Nat.lt_of_lt_of_le (hLsub g (.inr (.inl h))) hk.size, .inl (by simp [h])⟩
      · exact ⟨Nat.lt_of_lt_of_le (hLsub g (.inr (.inr (.inr h)))) hk.size, .inl (by simp [h])⟩
  have fresh : ∀ (cells : List Value) (G : Nat), (A.take i ++ q :: A.drop i).map RV.v = cells.take (A.length + 1) → A.length + 1 ≤ G → G ≤ maxLen → cells.length = G → ∀ w' : World, Keep w L0 w' → w'.heap[w.heap.size]? = some (.cells cells.toArray 22 (0, 0)) → w.heap.size < w'.heap.size →
      ∃ us Lr Lo, Ending.returned (.slice (some ⟨w.heap.size, 0, none⟩) (A.length + 1) G) = .returned (retVal us) ∧ Keep w (L0 ++ Lp ++ ([vb] ++ Mp)) w' ∧ VRs (Res true F) w' [rLL (R.take i ++ r :: R.drop i)] us Lr ∧
        OutsR (Res true F) w' [.mv (.one (.sl true 1 (LL R))), aI i, .mv (.one (.sl true 1 (LL [r])))] [v, .int .i64 i, .slice (some ⟨vb, 0, none⟩) 1 vc] [] Lo ∧ (Lr ++ Lo).Nodup ∧
        ∀ g ∈ Lr ++ Lo, g < w'.heap.size ∧ (g ∈ L0 ++ Lp ++ ([vb] ++ Mp) ∨ w.heap.size ≤ g) := by
    intro cells G hc h1 h2 h3 w' hk hh hs
    refine fin w' _ [w.heap.size] hk (.inr ⟨w.heap.size, A.length + 1, G, _, _, rfl, hh, ?_, h1, h2, by simp [h3], ?_, rfl⟩) (fun g hg => ?_) (by simp)
    · simp; omega
    · simpa using hc.symm
    · simp only [List.mem_singleton] at hg
      subst hg
      exact ⟨.inr (Nat.le_refl _), hs⟩
  rcases hrow with ⟨rfl, e0, rfl⟩ | ⟨b, n, c, cur, ety, rfl, h2, h3, h4, h5, h6, h7, rfl⟩
  · -- the nil slice
    have hAn : A = [] := by simpa using e0
    subst hAn
    have hi0 : i = 0 := by simp at hlen; omega
    subst hi0
    have hcall := ins_end_grow none 0 0 vb vc [] q.v w (Nat.le_refl _) (by omega) (by omega) rfl (fun _ => rfl) (fun a h => by cases h) (fun a h => by cases h) hvs q.one
    refine hcall.mono ?_
    rintro e w' ⟨rfl, rfl⟩
    have hge := grownCap_ge w 1 0 22
    have hcm : grownCap w 1 0 22 ≤ maxLen := grownCap_le_maxLen w 1 0 22 (by unfold maxLen; omega)
    refine fresh (([] ++ [q.v]) ++ (Builtin.zeroCells nilV.cells (grownCap w (0 + 1) 0 22 - (0 + 1))).toList) _ ?_ hge hcm ?_ _ (Keep.grow w _ _) ?_ ?_
    · simp
    · simp [Builtin.zeroCells, Value.cells]; omega
    · refine (alloc_new w.drew _).trans ?_
      simp
    · simp
  · have hnl : n = A.length := by rw [List.length_map] at h3; omega
    subst hnl
    have hbne : vb ≠ b := fun e => dd b (.inl (by simp)) vb (.inl rfl) e.symm
    have hcs : ∀ j v, (A.map RV.v)[j]? = some v → w.cell? ⟨b, j, none⟩ = some v := fun j v hj => row_cells h2 (n := A.length) (by simpa using h7) hj
    have h6' : cur.size = c := by omega
    have hc63 : c ≤ 9223372036854775807 := by unfold maxLen at h5; omega
    by_cases hin : i = A.length
    · subst hin
      by_cases hroom : A.length + 1 ≤ c
      · have hcall := ins_end_room b A.length c vb vc q.v w hroom hc63 (row_some h2 (by omega)) (row_frozen h2 _) hvs q.one
        refine hcall.mono ?_
        rintro e w' ⟨rfl, rfl⟩
        have hh := setCells_heap b ety [q.v] A.length w cur.toList (by simpa using h2) (by simp; omega)
        refine fin _ _ [b] (Keep.setCells b _ _ _) (.inr ⟨b, A.length + 1, c, _, ety, rfl, hh, by simp, hroom, h5, ?_, ?_, rfl⟩) (fun g hg => ⟨.inl hg, ?_⟩) (by simp)
        · rw [List.size_toArray, lay_len (by simp; omega)]; simp; omega
        · rw [Nat.mul_one, List.toList_toArray]
          unfold lay
          have e1 : cur.toList.take A.length = A.map RV.v := by simpa using h7
          rw [e1, List.take_append_of_le_length (by simp), List.take_of_length_le (by simp)]
          simp
        · simp only [List.mem_singleton] at hg
          subst hg
          exact Nat.lt_of_lt_of_le (hLsub _ (.inl (by simp))) (Keep.setCells _ _ _ _).size
      · have hcall := ins_end_grow (some ⟨b, 0, none⟩) A.length c vb vc (A.map RV.v) q.v w h4 (by omega) (by omega) (by simp) (fun h => by cases h) (fun a h => by cases h; rfl) (fun a h j v hj => by cases h; rw [addr_row]; exact hcs j v hj) hvs q.one
        refine hcall.mono ?_
        rintro e w' ⟨rfl, rfl⟩
        have hge := grownCap_ge w (A.length + 1) c 22
        have hcm : grownCap w (A.length + 1) c 22 ≤ maxLen := grownCap_le_maxLen w (A.length + 1) c 22 (by unfold maxLen; omega)
        refine fresh ((A.map RV.v ++ [q.v]) ++ (Builtin.zeroCells nilV.cells (grownCap w (A.length + 1) c 22 - (A.length + 1))).toList) _ ?_ hge hcm ?_ _ (Keep.grow w _ _) ?_ ?_
        · refine Eq.trans ?_ (List.take_left' (by simp)).symm
          simp
        · simp [Builtin.zeroCells, Value.cells]; omega
        · refine (alloc_new w.drew _).trans ?_
          simp
        · simp
    · have hlt : i < A.length := by omega
      by_cases hroom : A.length + 1 ≤ c
      · have hcall := ins_shift b A.length c i vb vc (A.map RV.v) q.v w hlt hroom hc63 hbne (by simp) hcs (fun j hj => row_some h2 (by omega)) (fun j _ => row_frozen h2 j) hvs hone q.one vety ety vcur.size cur.size (by simp [World.shape?, g2]) (by simp [World.shape?, h2]) (by omega) (row_frozen g2 _) (row_frozen g2 _)
        refine hcall.mono ?_
        rintro e w' ⟨rfl, rfl⟩
        have hh1 := setCells_heap b ety ((A.map RV.v).drop i) (i + 1) w.drew cur.toList (by rw [Array.toArray_toList]; exact h2) (by simp; omega)
        have hl1 : (lay cur.toList (i + 1) ((A.map RV.v).drop i)).length = cur.size := by rw [lay_len (by simp; omega)]; simp
        have hh2 := setCells_heap b ety [q.v] i (w.drew.setCells b (i + 1) ((A.map RV.v).drop i)) _ hh1 (by rw [hl1]; simp; omega)
        have hk : Keep w [b] ((w.drew.setCells b (i + 1) ((A.map RV.v).drop i)).setCells b i [q.v]) := ((show Keep w [b] w.drew from ⟨rfl, rfl, rfl, Nat.le_refl _, fun _ _ _ => rfl, Nat.le_succ _⟩).trans (Keep.setCells b _ _ _) (fun _ h _ => h)).trans (Keep.setCells b _ _ _) (fun _ h _ => h)
        refine fin _ _ [b] hk (.inr ⟨b, A.length + 1, c, _, ety, rfl, hh2, by simp; omega, hroom, h5, ?_, ?_, rfl⟩) (fun g hg => ⟨.inl hg, ?_⟩) (by simp)
        · rw [List.size_toArray, lay_len (by rw [hl1]; simp; omega), hl1]; omega
        · rw [Nat.mul_one, List.toList_toArray]
          have e1 : cur.toList.take A.length = A.map RV.v := by simpa using h7
          have e2 : cur.toList.take (i + 1) = (A.map RV.v).take (i + 1) := by rw [← e1, List.take_take]; congr 1; omega
          unfold lay
          rw [e2]
          have e3 : ((A.map RV.v).take (i + 1) ++ (A.map RV.v).drop i ++ cur.toList.drop (i + 1 + ((A.map RV.v).drop i).length)).take i = (A.map RV.v).take i := by
            rw [List.append_assoc, List.take_append_of_le_length (by simp; omega), List.take_take]; congr 1; omega
          have e4 : ((A.map RV.v).take (i + 1) ++ (A.map RV.v).drop i ++ cur.toList.drop (i + 1 + ((A.map RV.v).drop i).length)).drop (i + [q.v].length) = (A.map RV.v).drop i ++ cur.toList.drop (i + 1 + ((A.map RV.v).drop i).length) := by
            rw [List.append_assoc, List.drop_append_of_le_length (by simp; omega), List.drop_of_length_le (by simp; omega), List.nil_append]
          rw [e3, e4, ← List.append_assoc, List.take_append_of_le_length (by simp; omega), List.take_of_length_le (by simp; omega)]
          simp [List.map_take, List.map_drop]
        · simp only [List.mem_singleton] at hg
          subst hg
          exact Nat.lt_of_lt_of_le (hLsub _ (.inl (by simp))) hk.size
      · have hcall := ins_grow b A.length c i vb vc (A.map RV.v) q.v w hlt h4 (by omega) (by omega) (by simp) hcs hvs hone q.one
        refine hcall.mono ?_
        rintro e w' ⟨rfl, rfl⟩
        have hge := grownCap_ge w (A.length + 1) c 22
        have hcm : grownCap w (A.length + 1) c 22 ≤ maxLen := grownCap_le_maxLen w (A.length + 1) c 22 (by unfold maxLen; omega)
        generalize hROW : ((A.map RV.v).take i).toArray ++ Builtin.zeroCells nilV.cells (A.length + 1 - i) ++ Builtin.zeroCells nilV.cells (grownCap w (A.length + 1) c 22 - (A.length + 1)) = ROW
        have hRs : ROW.size = grownCap w (A.length + 1) c 22 := by rw [← hROW]; simp [Builtin.zeroCells, Value.cells]; omega
        have hRt : ROW.toList.take i = (A.map RV.v).take i := by
          rw [← hROW]
          simp only [Array.toList_append, List.toList_toArray, List.append_assoc]
          rw [List.take_append_of_le_length (by simp; omega), List.take_of_length_le (by simp; omega)]
        have h0 : ((w.alloc (.cells ROW 22)).drew).heap[w.heap.size]? = some (.cells ROW.toList.toArray 22 (0, 0)) := by
          rw [Array.toArray_toList]
          exact alloc_new w (.cells ROW 22)
        have hh1 := setCells_heap w.heap.size 22 [q.v] i _ ROW.toList h0 (by simp; omega)
        have hl1 : (lay ROW.toList i [q.v]).length = ROW.size := by rw [lay_len (by simp; omega)]; simp
        have hh2 := setCells_heap w.heap.size 22 ((A.map RV.v).drop i) (i + 1) (((w.alloc (.cells ROW 22)).drew.setCells w.heap.size i [q.v]).drew) _ hh1 (by rw [hl1]; simp; omega)
        have hsz : (((w.alloc (.cells ROW 22)).drew.setCells w.heap.size i [q.v]).drew.setCells w.heap.size (i + 1) ((A.map RV.v).drop i)).heap.size = w.heap.size + 1 := by
          have key : ∀ (vs : List Value) (o : Nat) (W : World), (W.setCells w.heap.size o vs).heap.size = W.heap.size := by
            intro vs
            induction vs with
            | nil => intro o W; rfl
            | cons x vs ih => intro o W; rw [World.setCells, ih]; simp [World.setCell]
          rw [key]
          show ((w.alloc (.cells ROW 22)).drew.setCells w.heap.size i [q.v]).heap.size = _
          rw [key]
          simp
        have hk : Keep w [b] (((w.alloc (.cells ROW 22)).drew.setCells w.heap.size i [q.v]).drew.setCells w.heap.size (i + 1) ((A.map RV.v).drop i)) := by
          have k1 : Keep w [] ((w.alloc (.cells ROW 22)).drew) := (Keep.alloc w _).trans (Keep.drew _) (fun _ h _ => h)
          have k2 : Keep w [] ((w.alloc (.cells ROW 22)).drew.setCells w.heap.size i [q.v]) := k1.trans (Keep.setCells w.heap.size _ _ _) (fun g h hl => by simp only [List.mem_singleton] at h; omega)
          have k3 : Keep w [] (((w.alloc (.cells ROW 22)).drew.setCells w.heap.size i [q.v]).drew) := k2.trans (Keep.drew _) (fun _ h _ => h)
          have k4 := k3.trans (Keep.setCells w.heap.size ((A.map RV.v).drop i) (i + 1) _) (fun g h hl => by simp only [List.mem_singleton] at h; omega)
          exact ⟨k4.os, k4.tape, k4.output, k4.size, fun g hg _ => k4.block g hg (by simp), k4.drawn⟩
        refine fresh _ _ ?_ hge hcm ?_ _ hk hh2 (by rw [hsz]; omega)
        · unfold lay
          rw [hRt]
          have e3 : ((A.map RV.v).take i ++ [q.v] ++ ROW.toList.drop (i + [q.v].length)).take (i + 1) = (A.map RV.v).take i ++ [q.v] := by
            rw [List.take_append_of_le_length (by simp; omega), List.take_of_length_le (by simp; omega)]
          rw [e3]
          refine Eq.trans ?_ (List.take_left' (by simp; omega)).symm
          simp [List.map_take, List.map_drop]
        · rw [lay_len (by rw [hl1]; simp; omega), hl1, hRs]
end Go.Proofs.Ytleleajafgmpbaa
namespace Go.Proofs.Ytleleajafgmpbaa
set_option maxHeartbeats 20000000
set_option linter.unusedVariables false
set_option linter.unusedSimpArgs false
open Go.Pv
open Go.ChangeShapes Go.WideShapes Go.ChangeAt Go.RowKit
attribute [local irreducible] RunU WpA Step CallG CallNG Done DoneN
instance fnOk76 : FnOk Try.prog 76 := ⟨_, Try.func76, rfl, by decide⟩
theorem IsSp.at {b : Int} {l : List Int} (h : IsSp b l) {i : Nat} (hi : i < l.length) : 1 ≤ l.getD i 0 ∧ l.getD i 0 ≤ 1999999 := by
  have h1 := h.1.2
  have := h.2.2.1 i hi
  omega
def InR (top bot : Int) : Prop := (0 ≤ top ∧ top ≤ 1000000) ∧ 1 ≤ bot ∧ bot ≤ 1000000
instance (top bot : Int) : Decidable (InR top bot) := by unfold InR; infer_instance
theorem compared_c (x y : Int) : CallA Try.prog 76 [aI x, aI y] [rI (if x < y then -1 else if y < x then 1 else 0)] [] := by
  refine callA_of _ Try.func76 rfl Try.ntmps76 (by first | exact ⟨rfl, rfl⟩ | (simp only [List.all_cons, List.all_nil, V.solid, D.solid, D.solids, solids_ints, solids_bools, solids_LL, Bool.and_self, Bool.and_true, and_self]; done) | simp [V.solid, D.solid, D.solids, solids_lits, solids_ints, solids_bools, solids_LL]) ?_
  repeat' (first | (guard_target =~ WpA _ _ _ _ _ _; first | refine WpA.seq ?_ | refine WpA.drawU ?_ | refine WpA.regionU ?_ | refine WpA.block ?_ | refine WpA.ret ?_ | refine WpA.skip ?_ | refine WpA.exit ?_ | refine WpA.cond_true rfl ?_ | refine WpA.cond_false rfl ?_ | refine WpA.cond_ntrue rfl ?_ | refine WpA.cond_dec rfl (fun _ => ?_) (fun _ => ?_) | refine WpA.cond_not rfl (fun _ => ?_) (fun _ => ?_) | refine WpA.cond rfl (fun _ => ?_) (fun _ => ?_)) | (guard_target =~ RunU _ _ _ _ [] _ _ _ _; first | refine RunU.nilL ?_ | refine RunU.nilD (by kernel_rfl) ?_) | (guard_target =~ RunU _ _ _ _ (Oper.mk _ _ _ _ _ none :: _) _ _ _ _; refine RunU.cons step_any ?_) | refine Then.next ?_ | refine InBlock.next ?_ | refine Done.ret (.one (by first | exact .c rfl | exact .own rfl | exact .als rfl rfl | exact .ptr rfl rfl | exact .part rfl rfl rfl) .nil) (.sh (.sh .nil)) ?_ rfl)
  all_goals simp [*]
end Go.Proofs.Ytleleajafgmpbaa
namespace Go.Proofs.Ytleleajafgmpbaa
set_option maxHeartbeats 20000000
set_option linter.unusedVariables false
set_option linter.unusedSimpArgs false
open Go.Pv
open Go.ChangeShapes Go.WideShapes Go.ChangeAt Go.RowKit
attribute [local irreducible] RunU WpA Step CallG CallNG Done DoneN
instance fnOk74 : FnOk Try.prog 74 := ⟨_, Try.func74, rfl, by decide⟩
instance fnOk75 : FnOk Try.prog 75 := ⟨_, Try.func75, rfl, by decide⟩
instance fnOk37 : FnOk Try.prog 37 := ⟨_, Try.func37, rfl, by decide⟩
instance fnOk77 : FnOk Try.prog 77 := ⟨_, Try.func77, rfl, by decide⟩
def atR (m : Int) : List (List Int) → Nat
  | [] => 0
  | r :: t => if r.getD 0 0 < m then atR m t + 1 else 0
def putR : List (List Int) → Int → Int → List (List Int)
  | [], m, e => [[m, e]]
  | r :: t, m, e => if r.getD 0 0 < m then r :: putR t m e else if r.getD 0 0 = m then r.set 1 (r.getD 1 0 + e) :: t else [m, e] :: r :: t
theorem atR_le (m : Int) : ∀ R, atR m R ≤ R.length
  | [] => Nat.le_refl _
  | r :: t => by
    have := atR_le m t
    simp only [atR, List.length_cons]
    split <;> omega
theorem atR_low (m : Int) : ∀ (R : List (List Int)) (i : Nat), i < atR m R → (R.getD i []).getD 0 0 < m
  | [], i, h => by simp [atR] at h
  | r :: t, i, h => by
    simp only [atR] at h
    split at h
    · rename_i h1
      cases i with
      | zero => simpa using h1
      | succ i => simpa using atR_low m t i (by omega)
    · omega
theorem atR_not (m : Int) : ∀ (R : List (List Int)), atR m R < R.length → ¬ (R.getD (atR m R) []).getD 0 0 < m
  | [], h => by simp at h
  | r :: t, h => by
    by_cases h1 : r.getD 0 0 < m
    · have e : atR m (r :: t) = atR m t + 1 := by rw [atR, if_pos h1]
      rw [e] at h ⊢
      simpa using atR_not m t (by simpa using h)
    · have e : atR m (r :: t) = 0 := by rw [atR, if_neg h1]
      rw [e]
      simpa using h1
theorem putR_has (m e : Int) : ∀ (R : List (List Int)), atR m R < R.length → (R.getD (atR m R) []).getD 0 0 = m → putR R m e = R.set (atR m R) ((R.getD (atR m R) []).set 1 ((R.getD (atR m R) []).getD 1 0 + e))
  | [], h, _ => by simp at h
  | r :: t, h, hm => by
    by_cases h1 : r.getD 0 0 < m
    · have e : atR m (r :: t) = atR m t + 1 := by rw [atR, if_pos h1]
      rw [e] at h hm ⊢
      rw [putR, if_pos h1, putR_has m _ t (by simpa using h) (by simpa using hm)]
      simp
    · have e : atR m (r :: t) = 0 := by rw [atR, if_neg h1]
      rw [e] at h hm ⊢
      simp only [List.getD_cons_zero] at hm
      rw [putR, if_neg h1, if_pos hm]
      simp
theorem putR_new (m e : Int) : ∀ (R : List (List Int)), (atR m R < R.length → ¬ (R.getD (atR m R) []).getD 0 0 = m) → putR R m e = R.take (atR m R) ++ [m, e] :: R.drop (atR m R)
  | [], _ => rfl
  | r :: t, hm => by
    by_cases h1 : r.getD 0 0 < m
    · have e : atR m (r :: t) = atR m t + 1 := by rw [atR, if_pos h1]
      rw [e] at hm ⊢
      rw [putR, if_pos h1, putR_new m _ t (fun h => by simpa using hm (by simpa using h))]
      simp
    · have e : atR m (r :: t) = 0 := by rw [atR, if_neg h1]
      rw [e] at hm ⊢
      have hm := hm (by simp)
      simp only [List.getD_cons_zero] at hm
      rw [putR, if_neg h1, if_neg hm]
      simp
def AscR (R : List (List Int)) : Prop := R.Pairwise fun a b => a.getD 0 0 < b.getD 0 0
def RowsR (R : List (List Int)) (b : Int) : Prop := ∀ r ∈ R, r.length = 2 ∧ -b ≤ r.getD 1 0 ∧ r.getD 1 0 ≤ b
theorem putR_head (m e : Int) : ∀ (R : List (List Int)) (r : List Int), r ∈ putR R m e → r.getD 0 0 = m ∨ ∃ q ∈ R, r.getD 0 0 = q.getD 0 0
  | [], r, h => by
    simp only [putR, List.mem_singleton] at h
    subst h
    exact .inl rfl
  | q :: t, r, h => by
    rw [putR] at h
    split at h
    · rcases List.mem_cons.1 h with rfl | h
      · exact .inr ⟨r, by simp, rfl⟩
      · rcases putR_head m e t r h with h | ⟨p, hp, h⟩
        · exact .inl h
        · exact .inr ⟨p, by simp [hp], h⟩
    · split at h
      · rcases List.mem_cons.1 h with rfl | h
        · refine .inr ⟨q, by simp, ?_⟩
          rw [List.getD_eq_getElem?_getD, List.getElem?_set_ne (by omega), ← List.getD_eq_getElem?_getD]
        · exact .inr ⟨r, by simp [h], rfl⟩
      · rcases List.mem_cons.1 h with rfl | h
        · exact .inl rfl
        · exact .inr ⟨r, h, rfl⟩
theorem putR_asc {m e : Int} : ∀ {R : List (List Int)}, AscR R → AscR (putR R m e)
  | [], _ => by simp [putR, AscR]
  | q :: t, h => by
    have h0 := List.pairwise_cons.1 h
    rw [putR]
    split
    · rename_i h1
      refine List.pairwise_cons.2 ⟨fun r hr => ?_, putR_asc h0.2⟩
      rcases putR_head m e t r hr with h | ⟨p, hp, h⟩
      · rw [h]; exact h1
      · rw [h]; exact h0.1 p hp
    · split
      · refine List.pairwise_cons.2 ⟨fun r hr => ?_, h0.2⟩
        rw [List.getD_eq_getElem?_getD, List.getElem?_set_ne (by omega), ← List.getD_eq_getElem?_getD]
        exact h0.1 r hr
      · rename_i h1 h2
        refine List.pairwise_cons.2 ⟨fun r hr => ?_, h⟩
        simp only [List.getD_cons_zero]
        rcases List.mem_cons.1 hr with rfl | hr
        · omega
        · have := h0.1 r hr
          omega
theorem putR_rows {m e b c : Int} (hb : 0 ≤ b) (he : -c ≤ e ∧ e ≤ c) : ∀ {R : List (List Int)}, RowsR R b → RowsR (putR R m e) (b + c)
  | [], _ => fun r hr => by
    simp only [putR, List.mem_singleton] at hr
    subst hr
    simp
    omega
  | q :: t, h => by
    have hq := h q (by simp)
    have ht : RowsR t b := fun r hr => h r (by simp [hr])
    have up : ∀ r ∈ t, r.length = 2 ∧ -(b + c) ≤ r.getD 1 0 ∧ r.getD 1 0 ≤ b + c := fun r hr => by
      have := ht r hr
      omega
    intro r hr
    rw [putR] at hr
    split at hr
    · rcases List.mem_cons.1 hr with rfl | hr
      · omega
      · exact putR_rows hb he ht r hr
    · split at hr
      · rcases List.mem_cons.1 hr with rfl | hr
        · rw [List.length_set, List.getD_eq_getElem?_getD, List.getElem?_set_self (by omega), Option.getD_some]
          omega
        · exact up r hr
      · rcases List.mem_cons.1 hr with rfl | hr
        · simp
          omega
        · rcases List.mem_cons.1 hr with rfl | hr
          · omega
          · exact up r hr
theorem putR_len (m e : Int) : ∀ (R : List (List Int)), (putR R m e).length ≤ R.length + 1
  | [] => by simp [putR]
  | q :: t => by
    have := putR_len m e t
    rw [putR]
    split
    · simp; omega
    · split <;> simp
theorem RowsR.at {R : List (List Int)} {b : Int} (h : RowsR R b) {i : Nat} (hi : i < R.length) : (R.getD i []).length = 2 ∧ -b ≤ (R.getD i []).getD 1 0 ∧ (R.getD i []).getD 1 0 ≤ b := by
  rw [List.getD_eq_getElem?_getD, List.getElem?_eq_getElem hi, Option.getD_some]
  exact h _ (List.getElem_mem hi)
theorem AscR.lt {R : List (List Int)} (h : AscR R) {i j : Nat} (hij : i < j) (hj : j < R.length) : (R.getD i []).getD 0 0 < (R.getD j []).getD 0 0 := by
  have e : ∀ k (hk : k < R.length), R.getD k [] = R[k] := fun k hk => by rw [List.getD_eq_getElem?_getD, List.getElem?_eq_getElem hk, Option.getD_some]
  rw [e i (by omega), e j hj]
  exact List.pairwise_iff_getElem.1 h i j (by omega) hj hij
theorem atR_iff {m : Int} {R : List (List Int)} (h : AscR R) {i : Nat} (hi : i < R.length) : (R.getD i []).getD 0 0 < m ↔ i < atR m R := by
  constructor
  · intro hm
    refine Decidable.byContradiction fun hn => ?_
    have h1 := atR_not m R (by omega)
    rcases Nat.lt_or_eq_of_le (Nat.le_of_not_lt hn) with h2 | h2
    · have := h.lt h2 hi
      omega
    · rw [h2] at h1
      exact h1 hm
  · exact atR_low m R i
def half (a : Int) : Int := a.fdiv (2 ^ 1)
theorem half_nat {a b : Nat} : half ((a : Int) + (b : Int)) = (((a + b) / 2 : Nat) : Int) := by
  unfold half
  rw [Int.fdiv_eq_ediv_of_nonneg _ (by decide)]
  omega
section
variable {P : Program} {n : NN} {nid : Nat} {st : Nat → AV} {d : Nat} {x y : Operand} {a b : Int} {T T' : TypeId} {ty pos aft g}
theorem step_half (hx : Go.Pv.Lit st x (.int .u64 a)) (hy : Go.Pv.Lit st y (.int .u64 1)) (e : half a = b) (hd : n d = true) : Step P n ⟨some d, .binOp .shr T x y T', ty, pos, aft, g⟩ nid st (rdOf x ++ rdOf y) [(d, .c (.lit (.int .u64 b)))] :=
  step_bin hx hy rfl (fun w => by subst e; simp [eqGuard_int, binOp, Op.shift, half, IntKind.bits]) hd
end
theorem wrap_u64 {a : Int} (h : 0 ≤ a ∧ a ≤ 9223372036854775807) : IntKind.u64.wrap a = a := by
  simp only [IntKind.wrap, IntKind.bits, IntKind.signed]
  simp
  omega
section
variable {P : Program} {n : NN} {nid : Nat} {st : Nat → AV} {d : Nat} {x : Operand} {a : Int} {S T : TypeId} {ty pos aft g}
theorem step_toU {k0 k1 : IntKind} [hT : IntTy P T .u64] [hS : IntTy P S k1] (hx : Go.Pv.Lit st x (.int k0 a)) (h : 0 ≤ a ∧ a ≤ 9223372036854775807) (hd : n d = true) : Step P n ⟨some d, .convert S T x, ty, pos, aft, g⟩ nid st (rdOf x) [(d, .c (.lit (.int .u64 a)))] := by
  have := step_convert (P := P) (n := n) (nid := nid) (S := S) (T := T) (ty := ty) (pos := pos) (aft := aft) (g := g) hx hd
  rwa [wrap_u64 h] at this
end
attribute [local irreducible] half
def cmpJ (a b : Int) : Int := if a < b then -1 else if b < a then 1 else 0
theorem addCmp_c (r : List Int) (m : Int) (hr : 0 < r.length) : CallA Try.prog 75 [aL r, aI m] [rI (cmpJ (r.getD (0 * 1) 0) m)] [] := by
  refine callA_of _ Try.func75 rfl Try.ntmps75 (by first | exact ⟨rfl, rfl⟩ | (simp only [List.all_cons, List.all_nil, V.solid, D.solid, D.solids, solids_ints, solids_bools, solids_LL, Bool.and_self, Bool.and_true, and_self]; done) | simp [V.solid, D.solid, D.solids, solids_lits, solids_ints, solids_bools, solids_LL]) ?_
  repeat' (first | (guard_target =~ WpA _ _ _ _ _ _; first | refine WpA.seq ?_ | refine WpA.drawU ?_ | refine WpA.regionU ?_ | refine WpA.block ?_ | refine WpA.ret ?_ | refine WpA.skip ?_ | refine WpA.exit ?_ | refine WpA.cond_true rfl ?_ | refine WpA.cond_false rfl ?_ | refine WpA.cond_ntrue rfl ?_ | refine WpA.cond_dec rfl (fun _ => ?_) (fun _ => ?_) | refine WpA.cond_not rfl (fun _ => ?_) (fun _ => ?_) | refine WpA.cond rfl (fun _ => ?_) (fun _ => ?_)) | (guard_target =~ RunU _ _ _ _ [] _ _ _ _; first | refine RunU.nilL ?_ | refine RunU.nilD (by kernel_rfl) ?_) | (guard_target =~ RunU _ _ _ _ (Oper.mk _ (Op.call ⟨Callee.value _, _, _⟩) _ _ _ none :: _) _ _ _ _; first | refine RunU.cons (step_call (compared_c _ _) (.sh (.sh .nil)) (.sh shows_any (.sh shows_any .nil)) rfl) ?_) | (guard_target =~ RunU _ _ _ _ (Oper.mk _ _ _ _ _ none :: _) _ _ _ _; refine RunU.cons step_any ?_) | refine Then.next ?_ | refine InBlock.next ?_ | refine Done.ret (.one (by first | exact .c rfl | exact .own rfl | exact .als rfl rfl | exact .ptr rfl rfl | exact .part rfl rfl rfl) .nil) (.sh (.sh .nil)) ?_ rfl)
  rfl
abbrev vZ (x : Int) : AV := .c (.lit (.int .i64 x))
abbrev vNt (x : Nat) : AV := .c (.lit (.int .i64 (x : Int)))
set_option maxRecDepth 100000 in
theorem searchR_c (R : List (List Int)) (m : Int) (k : Nat) (hl : R.length ≤ 1000000) (hk : k ≤ R.length) (hr : ∀ i, i < R.length → (R.getD i []).length = 2) (H : ∀ i, i < R.length → ((R.getD i []).getD 0 0 < m ↔ i < k)) :
    CallA Try.prog 74 [aLL R, aI m, .sh (.one (.fn 75 []))] [rI k, rB (decide (k < R.length ∧ (R.getD k []).getD 0 0 = m))] [] := by
  refine callA_of _ Try.func74 rfl Try.ntmps74 (by first | exact ⟨rfl, rfl⟩ | (simp only [List.all_cons, List.all_nil, V.solid, D.solid, D.solids, solids_ints, solids_bools, solids_LL, Bool.and_self, Bool.and_true, and_self]; done) | simp [V.solid, D.solid, D.solids, solids_lits, solids_ints, solids_bools, solids_LL]) ?_
  repeat' (first | (guard_target =~ WpA _ _ _ _ _ _; first | refine WpA.seq ?_ | refine WpA.drawU ?_ | refine WpA.regionU ?_ | refine WpA.block ?_ | refine WpA.ret ?_ | refine WpA.skip ?_ | refine WpA.exit ?_ | refine WpA.cond_true rfl ?_ | refine WpA.cond_false rfl ?_ | refine WpA.cond_ntrue rfl ?_ | refine WpA.cond_dec rfl (fun _ => ?_) (fun _ => ?_) | refine WpA.cond_not rfl (fun _ => ?_) (fun _ => ?_) | refine WpA.cond rfl (fun _ => ?_) (fun _ => ?_)) | (guard_target =~ RunU _ _ _ _ [] _ _ _ _; first | refine RunU.nilL ?_ | refine RunU.nilD (by kernel_rfl) ?_) | (guard_target =~ RunU _ _ _ _ (Oper.mk _ _ _ _ _ none :: _) _ _ _ _; refine RunU.cons step_any ?_) | (guard_target =~ RunU _ _ _ _ (Oper.mk _ _ _ _ _ (some _) :: _) _ _ _ _; first | refine RunU.pass rfl rfl rfl rfl ?_ | refine RunU.pass_undef rfl rfl rfl ?_ | refine RunU.doit rfl rfl step_any ?_ | ((fail_if_success (refine RunU.doit (rd := []) (up := []) rfl rfl ?_ ?_)); first | refine RunU.guard_dec rfl rfl (fun _ => ?_) (fun _ => ?_) | refine RunU.guard_not rfl rfl (fun _ => ?_) (fun _ => ?_) | refine RunU.guard rfl rfl (fun _ => ?_) (fun _ => ?_))) | refine Then.next ?_ | refine InBlock.next ?_ | refine Done.ret (.one (by first | exact .c rfl | exact .own rfl | exact .als rfl rfl | exact .ptr rfl rfl | exact .part rfl rfl rfl) (.one (by first | exact .c rfl | exact .own rfl | exact .als rfl rfl | exact .ptr rfl rfl | exact .part rfl rfl rfl) .nil)) (.sh (.sh (.sh .nil))) ?_ rfl)
  refine WpA.loop_slots (ι := Nat × Nat) (fun p => [(0, .c (.sl false 1 (LLs R))), (1, vZ m), (2, .c (.fn 75 [])), (8, vNt R.length), (9, vNt p.1), (10, vNt p.2)]) (fun p => p.1 ≤ k ∧ k ≤ p.2 ∧ p.2 ≤ R.length) (fun p => p.2 - p.1) (0, R.length) ⟨by simp, hk, by simp⟩ ⟨rfl, rfl, rfl, rfl, rfl, rfl, trivial⟩ ?_
  rintro ⟨i, j⟩ s nx ⟨h1, h2, h3⟩
  simp only at h1 h2 h3
  dsimp only
  by_cases hij : i < j
  · have hh := half_nat (a := i) (b := j)
    obtain ⟨q, hq⟩ : ∃ q, q = (i + j) / 2 := ⟨_, rfl⟩
    rw [← hq] at hh
    have hqi : i ≤ q ∧ q < j := by omega
    clear hq
    have hrq := hr (q * 1) (by omega)
    have hH := H (q * 1) (by omega)
    have hC := addCmp_c (R.getD (q * 1) []) m (by omega)
    clear H hr
    by_cases hlt : q < k
    · have e : cmpJ ((R.getD (q * 1) []).getD (0 * 1) 0) m = -1 := by
        have : (R.getD (q * 1) []).getD (0 * 1) 0 < m := hH.2 (by omega)
        rw [cmpJ, if_pos this]
      rw [e] at hC
      clear hH e
      repeat' (first | (guard_target =~ WpA _ _ _ _ _ _; first | refine WpA.seq ?_ | refine WpA.drawU ?_ | refine WpA.regionU ?_ | refine WpA.block ?_ | refine WpA.ret ?_ | refine WpA.skip ?_ | refine WpA.exit ?_ | refine WpA.cond_true rfl ?_ | refine WpA.cond_false rfl ?_ | refine WpA.cond_ntrue rfl ?_ | refine WpA.cond_dec rfl (fun _ => ?_) (fun _ => ?_) | refine WpA.cond_not rfl (fun _ => ?_) (fun _ => ?_) | refine WpA.cond rfl (fun _ => ?_) (fun _ => ?_)) | (guard_target =~ RunU _ _ _ _ [] _ _ _ _; first | refine RunU.nilL ?_ | refine RunU.nilD (by kernel_rfl) ?_) | (guard_target =~ RunU _ _ _ _ (Oper.mk _ (Op.call ⟨Callee.value _, _, _⟩) _ _ _ none :: _) _ _ _ _; first | refine RunU.cons (step_call_clo (hC) (by exact rfl) (by exact rfl) (.sh (.sh .nil)) (.sh shows_any (.sh shows_any .nil)) rfl) ?_) | (guard_target =~ RunU _ _ _ _ (Oper.mk _ _ _ _ _ none :: _) _ _ _ _; first | refine RunU.cons (step_toU rfl (by omega) rfl) ?_ | refine RunU.cons (step_half rfl rfl hh rfl) ?_) | (guard_target =~ RunU _ _ _ _ (Oper.mk _ _ _ _ _ none :: _) _ _ _ _; refine RunU.cons step_any ?_) | (guard_target =~ RunU _ _ _ _ (Oper.mk _ _ _ _ _ (some _) :: _) _ _ _ _; first | refine RunU.pass rfl rfl rfl rfl ?_ | refine RunU.pass_undef rfl rfl rfl ?_ | (guard_target =~ RunU _ _ _ _ (Oper.mk _ (Op.call ⟨Callee.value _, _, _⟩) _ _ _ _ :: _) _ _ _ _; first | refine RunU.doit rfl rfl (step_call_clo (hC) (by exact rfl) (by exact rfl) (.sh (.sh .nil)) (.sh shows_any (.sh shows_any .nil)) rfl) ?_) | refine RunU.doit rfl rfl step_any ?_ | ((fail_if_success (refine RunU.doit (rd := []) (up := []) rfl rfl ?_ ?_)); first | refine RunU.guard_dec rfl rfl (fun _ => ?_) (fun _ => ?_) | refine RunU.guard_not rfl rfl (fun _ => ?_) (fun _ => ?_) | refine RunU.guard rfl rfl (fun _ => ?_) (fun _ => ?_))) | refine Then.next ?_ | refine InBlock.next ?_ | refine Done.ret (.one (by first | exact .c rfl | exact .own rfl | exact .als rfl rfl | exact .ptr rfl rfl | exact .part rfl rfl rfl) (.one (by first | exact .c rfl | exact .own rfl | exact .als rfl rfl | exact .ptr rfl rfl | exact .part rfl rfl rfl) .nil)) (.sh (.sh (.sh .nil))) ?_ rfl)
      all_goals try (exfalso; omega)
      exact ⟨(q + 1, j), ⟨by simp only; omega, by simp only; omega, by simp only; omega⟩, ⟨rfl, rfl, rfl, rfl, int_eq (by simp), rfl, trivial⟩, by simp only; omega⟩
    · have e : 0 ≤ cmpJ ((R.getD (q * 1) []).getD (0 * 1) 0) m := by
        have : ¬ (R.getD (q * 1) []).getD (0 * 1) 0 < m := fun h => hlt (by have := hH.1 h; omega)
        rw [cmpJ, if_neg this]
        split <;> omega
      clear hH
      generalize cmpJ ((R.getD (q * 1) []).getD (0 * 1) 0) m = cc at *
      repeat' (first | (guard_target =~ WpA _ _ _ _ _ _; first | refine WpA.seq ?_ | refine WpA.drawU ?_ | refine WpA.regionU ?_ | refine WpA.block ?_ | refine WpA.ret ?_ | refine WpA.skip ?_ | refine WpA.exit ?_ | refine WpA.cond_true rfl ?_ | refine WpA.cond_false rfl ?_ | refine WpA.cond_ntrue rfl ?_ | refine WpA.cond_dec rfl (fun _ => ?_) (fun _ => ?_) | refine WpA.cond_not rfl (fun _ => ?_) (fun _ => ?_) | refine WpA.cond rfl (fun _ => ?_) (fun _ => ?_)) | (guard_target =~ RunU _ _ _ _ [] _ _ _ _; first | refine RunU.nilL ?_ | refine RunU.nilD (by kernel_rfl) ?_) | (guard_target =~ RunU _ _ _ _ (Oper.mk _ (Op.call ⟨Callee.value _, _, _⟩) _ _ _ none :: _) _ _ _ _; first | refine RunU.cons (step_call_clo (hC) (by exact rfl) (by exact rfl) (.sh (.sh .nil)) (.sh shows_any (.sh shows_any .nil)) rfl) ?_) | (guard_target =~ RunU _ _ _ _ (Oper.mk _ _ _ _ _ none :: _) _ _ _ _; first | refine RunU.cons (step_toU rfl (by omega) rfl) ?_ | refine RunU.cons (step_half rfl rfl hh rfl) ?_) | (guard_target =~ RunU _ _ _ _ (Oper.mk _ _ _ _ _ none :: _) _ _ _ _; refine RunU.cons step_any ?_) | (guard_target =~ RunU _ _ _ _ (Oper.mk _ _ _ _ _ (some _) :: _) _ _ _ _; first | refine RunU.pass rfl rfl rfl rfl ?_ | refine RunU.pass_undef rfl rfl rfl ?_ | (guard_target =~ RunU _ _ _ _ (Oper.mk _ (Op.call ⟨Callee.value _, _, _⟩) _ _ _ _ :: _) _ _ _ _; first | refine RunU.doit rfl rfl (step_call_clo (hC) (by exact rfl) (by exact rfl) (.sh (.sh .nil)) (.sh shows_any (.sh shows_any .nil)) rfl) ?_) | refine RunU.doit rfl rfl step_any ?_ | ((fail_if_success (refine RunU.doit (rd := []) (up := []) rfl rfl ?_ ?_)); first | refine RunU.guard_dec rfl rfl (fun _ => ?_) (fun _ => ?_) | refine RunU.guard_not rfl rfl (fun _ => ?_) (fun _ => ?_) | refine RunU.guard rfl rfl (fun _ => ?_) (fun _ => ?_))) | refine Then.next ?_ | refine InBlock.next ?_ | refine Done.ret (.one (by first | exact .c rfl | exact .own rfl | exact .als rfl rfl | exact .ptr rfl rfl | exact .part rfl rfl rfl) (.one (by first | exact .c rfl | exact .own rfl | exact .als rfl rfl | exact .ptr rfl rfl | exact .part rfl rfl rfl) .nil)) (.sh (.sh (.sh .nil))) ?_ rfl)
      all_goals try (exfalso; omega)
      exact ⟨(i, q), ⟨by simp only; omega, by simp only; omega, by simp only; omega⟩, ⟨rfl, rfl, rfl, rfl, rfl, int_eq (by simp), trivial⟩, by simp only; omega⟩
  · have e1 : i = k := by omega
    have e2 : j = k := by omega
    rw [e1, e2]
    clear h1 h2 h3 hij e1 e2
    by_cases hkl : k < R.length
    · have hrk := hr (k * 1) (by omega)
      have hHk := H (k * 1) (by omega)
      have hC := addCmp_c (R.getD (k * 1) []) m (by omega)
      rw [Nat.mul_one] at hrk hHk hC
      have hn : ¬ (R.getD k []).getD 0 0 < m := fun h => by have := hHk.1 h; omega
      clear H hr hHk
      by_cases hm : (R.getD k []).getD 0 0 = m
      · have e : cmpJ ((R.getD k []).getD (0 * 1) 0) m = 0 := by
          have : ¬ m < (R.getD k []).getD (0 * 1) 0 := by rw [Nat.zero_mul, hm]; omega
          rw [cmpJ, if_neg (by simpa using hn), if_neg this]
        rw [e] at hC
        rw [← Nat.mul_one k] at hC
        rw [show (decide (k < R.length ∧ (R.getD k []).getD 0 0 = m)) = true from decide_eq_true ⟨hkl, hm⟩]
        clear hm hn e
        repeat' (first | (guard_target =~ WpA _ _ _ _ _ _; first | refine WpA.seq ?_ | refine WpA.drawU ?_ | refine WpA.regionU ?_ | refine WpA.block ?_ | refine WpA.ret ?_ | refine WpA.skip ?_ | refine WpA.exit ?_ | refine WpA.cond_true rfl ?_ | refine WpA.cond_false rfl ?_ | refine WpA.cond_ntrue rfl ?_ | refine WpA.cond_dec rfl (fun _ => ?_) (fun _ => ?_) | refine WpA.cond_not rfl (fun _ => ?_) (fun _ => ?_) | refine WpA.cond rfl (fun _ => ?_) (fun _ => ?_)) | (guard_target =~ RunU _ _ _ _ [] _ _ _ _; first | refine RunU.nilL ?_ | refine RunU.nilD (by kernel_rfl) ?_) | (guard_target =~ RunU _ _ _ _ (Oper.mk _ (Op.call ⟨Callee.value _, _, _⟩) _ _ _ none :: _) _ _ _ _; first | refine RunU.cons (step_call_clo (hC) (by exact rfl) (by exact rfl) (.sh (.sh .nil)) (.sh shows_any (.sh shows_any .nil)) rfl) ?_) | (guard_target =~ RunU _ _ _ _ (Oper.mk _ _ _ _ _ none :: _) _ _ _ _; refine RunU.cons step_any ?_) | (guard_target =~ RunU _ _ _ _ (Oper.mk _ _ _ _ _ (some _) :: _) _ _ _ _; first | refine RunU.pass rfl rfl rfl rfl ?_ | refine RunU.pass_undef rfl rfl rfl ?_ | (guard_target =~ RunU _ _ _ _ (Oper.mk _ (Op.call ⟨Callee.value _, _, _⟩) _ _ _ _ :: _) _ _ _ _; first | refine RunU.doit rfl rfl (step_call_clo (hC) (by exact rfl) (by exact rfl) (.sh (.sh .nil)) (.sh shows_any (.sh shows_any .nil)) rfl) ?_) | refine RunU.doit rfl rfl step_any ?_ | ((fail_if_success (refine RunU.doit (rd := []) (up := []) rfl rfl ?_ ?_)); first | refine RunU.guard_dec rfl rfl (fun _ => ?_) (fun _ => ?_) | refine RunU.guard_not rfl rfl (fun _ => ?_) (fun _ => ?_) | refine RunU.guard rfl rfl (fun _ => ?_) (fun _ => ?_))) | refine Then.next ?_ | refine InBlock.next ?_ | refine Done.ret (.one (by first | exact .c rfl | exact .own rfl | exact .als rfl rfl | exact .ptr rfl rfl | exact .part rfl rfl rfl) (.one (by first | exact .c rfl | exact .own rfl | exact .als rfl rfl | exact .ptr rfl rfl | exact .part rfl rfl rfl) .nil)) (.sh (.sh (.sh .nil))) ?_ rfl)
        all_goals first | rfl | (exfalso; omega) | simp_all
      · have e : ¬ cmpJ ((R.getD k []).getD (0 * 1) 0) m = 0 := by
          have : m < (R.getD k []).getD (0 * 1) 0 := by rw [Nat.zero_mul]; omega
          rw [cmpJ, if_neg (by simpa using hn), if_pos this]
          omega
        generalize cmpJ ((R.getD k []).getD (0 * 1) 0) m = cc at *
        rw [← Nat.mul_one k] at hC
        rw [show (decide (k < R.length ∧ (R.getD k []).getD 0 0 = m)) = false from decide_eq_false (fun h => hm h.2)]
        clear hm hn
        repeat' (first | (guard_target =~ WpA _ _ _ _ _ _; first | refine WpA.seq ?_ | refine WpA.drawU ?_ | refine WpA.regionU ?_ | refine WpA.block ?_ | refine WpA.ret ?_ | refine WpA.skip ?_ | refine WpA.exit ?_ | refine WpA.cond_true rfl ?_ | refine WpA.cond_false rfl ?_ | refine WpA.cond_ntrue rfl ?_ | refine WpA.cond_dec rfl (fun _ => ?_) (fun _ => ?_) | refine WpA.cond_not rfl (fun _ => ?_) (fun _ => ?_) | refine WpA.cond rfl (fun _ => ?_) (fun _ => ?_)) | (guard_target =~ RunU _ _ _ _ [] _ _ _ _; first | refine RunU.nilL ?_ | refine RunU.nilD (by kernel_rfl) ?_) | (guard_target =~ RunU _ _ _ _ (Oper.mk _ (Op.call ⟨Callee.value _, _, _⟩) _ _ _ none :: _) _ _ _ _; first | refine RunU.cons (step_call_clo (hC) (by exact rfl) (by exact rfl) (.sh (.sh .nil)) (.sh shows_any (.sh shows_any .nil)) rfl) ?_) | (guard_target =~ RunU _ _ _ _ (Oper.mk _ _ _ _ _ none :: _) _ _ _ _; refine RunU.cons step_any ?_) | (guard_target =~ RunU _ _ _ _ (Oper.mk _ _ _ _ _ (some _) :: _) _ _ _ _; first | refine RunU.pass rfl rfl rfl rfl ?_ | refine RunU.pass_undef rfl rfl rfl ?_ | (guard_target =~ RunU _ _ _ _ (Oper.mk _ (Op.call ⟨Callee.value _, _, _⟩) _ _ _ _ :: _) _ _ _ _; first | refine RunU.doit rfl rfl (step_call_clo (hC) (by exact rfl) (by exact rfl) (.sh (.sh .nil)) (.sh shows_any (.sh shows_any .nil)) rfl) ?_) | refine RunU.doit rfl rfl step_any ?_ | ((fail_if_success (refine RunU.doit (rd := []) (up := []) rfl rfl ?_ ?_)); first | refine RunU.guard_dec rfl rfl (fun _ => ?_) (fun _ => ?_) | refine RunU.guard_not rfl rfl (fun _ => ?_) (fun _ => ?_) | refine RunU.guard rfl rfl (fun _ => ?_) (fun _ => ?_))) | refine Then.next ?_ | refine InBlock.next ?_ | refine Done.ret (.one (by first | exact .c rfl | exact .own rfl | exact .als rfl rfl | exact .ptr rfl rfl | exact .part rfl rfl rfl) (.one (by first | exact .c rfl | exact .own rfl | exact .als rfl rfl | exact .ptr rfl rfl | exact .part rfl rfl rfl) .nil)) (.sh (.sh (.sh .nil))) ?_ rfl)
        all_goals first | rfl | (exfalso; omega) | simp_all
    · rw [show (decide (k < R.length ∧ (R.getD k []).getD 0 0 = m)) = false from decide_eq_false (fun h => hkl h.1)]
      clear H hr
      repeat' (first | (guard_target =~ WpA _ _ _ _ _ _; first | refine WpA.seq ?_ | refine WpA.drawU ?_ | refine WpA.regionU ?_ | refine WpA.block ?_ | refine WpA.ret ?_ | refine WpA.skip ?_ | refine WpA.exit ?_ | refine WpA.cond_true rfl ?_ | refine WpA.cond_false rfl ?_ | refine WpA.cond_ntrue rfl ?_ | refine WpA.cond_dec rfl (fun _ => ?_) (fun _ => ?_) | refine WpA.cond_not rfl (fun _ => ?_) (fun _ => ?_) | refine WpA.cond rfl (fun _ => ?_) (fun _ => ?_)) | (guard_target =~ RunU _ _ _ _ [] _ _ _ _; first | refine RunU.nilL ?_ | refine RunU.nilD (by kernel_rfl) ?_) | (guard_target =~ RunU _ _ _ _ (Oper.mk _ _ _ _ _ none :: _) _ _ _ _; refine RunU.cons step_any ?_) | (guard_target =~ RunU _ _ _ _ (Oper.mk _ _ _ _ _ (some _) :: _) _ _ _ _; first | refine RunU.pass rfl rfl rfl rfl ?_ | refine RunU.pass_undef rfl rfl rfl ?_ | refine RunU.doit rfl rfl step_any ?_ | ((fail_if_success (refine RunU.doit (rd := []) (up := []) rfl rfl ?_ ?_)); first | refine RunU.guard_dec rfl rfl (fun _ => ?_) (fun _ => ?_) | refine RunU.guard_not rfl rfl (fun _ => ?_) (fun _ => ?_) | refine RunU.guard rfl rfl (fun _ => ?_) (fun _ => ?_))) | refine Then.next ?_ | refine InBlock.next ?_ | refine Done.ret (.one (by first | exact .c rfl | exact .own rfl | exact .als rfl rfl | exact .ptr rfl rfl | exact .part rfl rfl rfl) (.one (by first | exact .c rfl | exact .own rfl | exact .als rfl rfl | exact .ptr rfl rfl | exact .part rfl rfl rfl) .nil)) (.sh (.sh (.sh .nil))) ?_ rfl)
      all_goals first | rfl | (exfalso; omega) | simp_all
end Go.Proofs.Ytleleajafgmpbaa
namespace Go.Proofs.Ytleleajafgmpbaa
set_option maxHeartbeats 20000000
set_option linter.unusedVariables false
set_option linter.unusedSimpArgs false
open Go.Pv
open Go.ChangeShapes Go.WideShapes Go.ChangeAt Go.RowKit
attribute [local irreducible] RunU WpA Step CallG CallNG Done DoneN
def ZAt (R : List (List Int)) (i : Nat) : Prop := (R.getD i []).length = 2 ∧ (1 ≤ (R.getD i []).getD 0 0 ∧ (R.getD i []).getD 0 0 ≤ 1000000) ∧ (R.getD i []).getD 1 0 ≠ 0 ∧ (-1000 ≤ (R.getD i []).getD 1 0 ∧ (R.getD i []).getD 1 0 ≤ 1000) ∧ (0 < i → (R.getD (i - 1) []).getD 0 0 < (R.getD i []).getD 0 0)
instance (R : List (List Int)) (i : Nat) : Decidable (ZAt R i) := by unfold ZAt; infer_instance
def IsZ (R : List (List Int)) : Prop := R.length ≤ 40 ∧ ∀ i, i < R.length → ZAt R i
instance decIsZ (R : List (List Int)) : Decidable (IsZ R) := by unfold IsZ; infer_instance
def zeTo (O E : List Int) : Nat → List (List Int)
  | 0 => []
  | j + 1 => putR (zeTo O E j) (O.getD j 0) (E.getD j 0)
theorem zeTo_len (O E : List Int) : ∀ j, (zeTo O E j).length ≤ j
  | 0 => Nat.le_refl _
  | j + 1 => Nat.le_trans (putR_len _ _ _) (Nat.succ_le_succ (zeTo_len O E j))
theorem zeTo_asc (O E : List Int) : ∀ j, AscR (zeTo O E j)
  | 0 => List.Pairwise.nil
  | j + 1 => putR_asc (zeTo_asc O E j)
theorem zeTo_rows {O E : List Int} {c : Int} (hc : 0 ≤ c) (h : ∀ i, -c ≤ E.getD i 0 ∧ E.getD i 0 ≤ c) : ∀ j : Nat, RowsR (zeTo O E j) (j * c)
  | 0 => fun _ h => by simp [zeTo] at h
  | j + 1 => by
    have hb : 0 ≤ (j : Int) * c := Int.mul_nonneg (by omega) hc
    have := putR_rows (m := O.getD j 0) hb (h j) (zeTo_rows (O := O) hc h j)
    rw [show (((j + 1 : Nat) : Int) * c) = (j : Int) * c + c by rw [Int.natCast_add, Int.add_mul]; simp]
    exact this
def nzTo (R : List (List Int)) : Nat → List (List Int)
  | 0 => []
  | j + 1 => nzTo R j ++ if (R.getD j []).getD 1 0 ≠ 0 then [R.getD j []] else []
theorem nzTo_len (R : List (List Int)) : ∀ j, (nzTo R j).length ≤ j
  | 0 => Nat.le_refl _
  | j + 1 => by
    have := nzTo_len R j
    rw [nzTo, List.length_append]
    split <;> simp <;> omega
theorem nzTo_mem {R : List (List Int)} : ∀ (j : Nat), j ≤ R.length → ∀ r ∈ nzTo R j, r ∈ R
  | 0, _, r, h => by simp [nzTo] at h
  | j + 1, hj, r, h => by
    rw [nzTo] at h
    rcases List.mem_append.1 h with h | h
    · exact nzTo_mem j (by omega) r h
    · split at h
      · rw [List.mem_singleton] at h
        rw [h, List.getD_eq_getElem?_getD, List.getElem?_eq_getElem (by omega)]
        exact List.getElem_mem _
      · simp at h
end Go.Proofs.Ytleleajafgmpbaa
namespace Go.Proofs.Ytleleajafgmpbaa
set_option maxHeartbeats 20000000
set_option linter.unusedVariables false
set_option linter.unusedSimpArgs false
open Go.Pv
open Go.ChangeShapes Go.WideShapes Go.ChangeAt Go.RowKit
attribute [local irreducible] RunU WpA Step CallG CallNG Done DoneN
abbrev dCt (R : List (List Int)) : D := .pt true [.sl true 1 (LL R)]
theorem put_ct {R : List (List Int)} {i : Nat} {m : List Int} (h : i < R.length) : (dCt R).put [0, i] (.sl true 1 (ints m)) = dCt (R.set i m) := by
  simp only [D.put, D.kids, LL, D.withKids, List.getElem?_cons_zero, List.set_cons_zero, LL_get h, List.map_set, dCt]
theorem nav_ct {R : List (List Int)} {i : Nat} (h : i < R.length) : (dCt R).nav [0, i] = some (.sl true 1 (ints (R.getD i []))) := by
  simp only [D.nav, D.kids, List.getElem?_cons_zero, LL, LL_get h]
set_option maxRecDepth 100000 in
theorem add_c (R : List (List Int)) (m e b : Int) (hl : R.length ≤ 900000) (ha : AscR R) (hr : RowsR R b) (hb : 0 ≤ b ∧ b ≤ 4611686018427387904) (he : -4611686018427387904 ≤ e ∧ e ≤ 4611686018427387903) :
    CallA Try.prog 37 [.io (dCt R), aI m, aI e] [] [dCt (putR R m e)] := by
  have hk := atR_le m R
  have hS := searchR_c R m (atR m R) (by omega) hk (fun i hi => (hr.at hi).1) (fun i hi => atR_iff ha hi)
  by_cases hin : atR m R < R.length ∧ (R.getD (atR m R) []).getD 0 0 = m
  · rw [decide_eq_true hin] at hS
    rw [putR_has m e R hin.1 hin.2]
    have hrow := hr.at hin.1
    clear ha hr
    generalize atR m R = k at *
    obtain ⟨hin, _⟩ := hin
    have h1 : (R.getD (k * 1) []).length = 2 := by simpa using hrow.1
    have h2 : -b ≤ (R.getD (k * 1) []).getD (1 * 1) 0 ∧ (R.getD (k * 1) []).getD (1 * 1) 0 ≤ b := by simpa using hrow.2
    clear hrow
    refine callA_of _ Try.func37 rfl Try.ntmps37 (by first | exact ⟨rfl, rfl⟩ | (simp only [List.all_cons, List.all_nil, V.solid, D.solid, D.solids, solids_ints, solids_bools, solids_LL, Bool.and_self, Bool.and_true, and_self]; done) | simp [V.solid, D.solid, D.solids, solids_lits, solids_ints, solids_bools, solids_LL]) ?_
    repeat' (first | (guard_target =~ WpA _ _ _ _ _ _; first | refine WpA.seq ?_ | refine WpA.drawU ?_ | refine WpA.regionU ?_ | refine WpA.block ?_ | refine WpA.ret ?_ | refine WpA.skip ?_ | refine WpA.exit ?_ | refine WpA.cond_true rfl ?_ | refine WpA.cond_false rfl ?_ | refine WpA.cond_ntrue rfl ?_ | refine WpA.cond_dec rfl (fun _ => ?_) (fun _ => ?_) | refine WpA.cond_not rfl (fun _ => ?_) (fun _ => ?_) | refine WpA.cond rfl (fun _ => ?_) (fun _ => ?_)) | (guard_target =~ RunU _ _ _ _ [] _ _ _ _; first | refine RunU.nilL ?_ | refine RunU.nilD (by kernel_rfl) ?_) | (guard_target =~ RunU _ _ _ _ (Oper.mk _ (Op.call ⟨Callee.value _, _, _⟩) _ _ _ none :: _) _ _ _ _; first | refine RunU.cons (step_call (hS) (.sh (.sh (.sh .nil))) (.sh shows_any (.sh shows_any (.sh shows_any .nil))) rfl) ?_) | (guard_target =~ RunU _ _ _ _ (Oper.mk _ _ _ _ _ none :: _) _ _ _ _; first | refine RunU.cons (step_index_als rfl rfl (nav_ct (by omega)) rfl (by with_reducible exact idx_lit _) (by omega) rfl) ?_ | refine RunU.cons (step_load rfl rfl (nav_ct (by omega)) rfl (ints_get (by omega)) rfl) ?_ | refine RunU.cons (step_store_ints rfl rfl (nav_ct (by omega)) rfl rfl (by omega)) ?_) | (guard_target =~ RunU _ _ _ _ (Oper.mk _ _ _ _ _ none :: _) _ _ _ _; refine RunU.cons step_any ?_) | refine Then.next ?_ | refine InBlock.next ?_ | refine Done.ret .nil (.io rfl (.sh (.sh .nil))) ?_ rfl | refine Done.normal .nil (.io rfl (.sh (.sh .nil))) ?_ rfl | refine Done.ret .nil (.io rfl (.sh (.sh .nil))) ?_ ?_ | refine Done.normal .nil (.io rfl (.sh (.sh .nil))) ?_ ?_)
    · rfl
    · have := put_ct (R := R) (i := k * 1) (m := (R.getD (k * 1) []).set (1 * 1) ((R.getD (k * 1) []).getD (1 * 1) 0 + e)) (by omega)
      rw [Nat.mul_one, Nat.mul_one] at this
      rw [← this]
      simp [D.withKids]
  · rw [decide_eq_false hin] at hS
    rw [putR_new m e R (fun h => by simpa [h] using hin)]
    have hI := insert_c R (atR m R) [m, 0] hk (by omega)
    clear ha hr hin
    generalize atR m R = k at *
    have hlen : (R.take k ++ [m, 0] :: R.drop k).length = R.length + 1 := by simp; omega
    have hget : (R.take k ++ [m, 0] :: R.drop k).getD (k * 1) [] = [m, 0] := by
      rw [Nat.mul_one, List.getD_eq_getElem?_getD, List.getElem?_append_right (by simp; omega), List.length_take, Nat.min_eq_left hk, Nat.sub_self]
      rfl
    have hset : (R.take k ++ [m, 0] :: R.drop k).set k [m, 0 + e] = R.take k ++ [m, e] :: R.drop k := by
      rw [List.set_append_right _ _ (by simp; omega), List.length_take, Nat.min_eq_left hk, Nat.sub_self, List.set_cons_zero, Int.zero_add]
    generalize hR2 : R.take k ++ [m, 0] :: R.drop k = R2 at *
    have h1 : (R2.getD (k * 1) []).length = 2 := by rw [hget]; rfl
    have h2 : (R2.getD (k * 1) []).getD (1 * 1) 0 = 0 := by rw [hget]; rfl
    refine callA_of _ Try.func37 rfl Try.ntmps37 (by first | exact ⟨rfl, rfl⟩ | (simp only [List.all_cons, List.all_nil, V.solid, D.solid, D.solids, solids_ints, solids_bools, solids_LL, Bool.and_self, Bool.and_true, and_self]; done) | simp [V.solid, D.solid, D.solids, solids_lits, solids_ints, solids_bools, solids_LL]) ?_
    repeat' (first | (guard_target =~ WpA _ _ _ _ _ _; first | refine WpA.seq ?_ | refine WpA.drawU ?_ | refine WpA.regionU ?_ | refine WpA.block ?_ | refine WpA.ret ?_ | refine WpA.skip ?_ | refine WpA.exit ?_ | refine WpA.cond_true rfl ?_ | refine WpA.cond_false rfl ?_ | refine WpA.cond_ntrue rfl ?_ | refine WpA.cond_dec rfl (fun _ => ?_) (fun _ => ?_) | refine WpA.cond_not rfl (fun _ => ?_) (fun _ => ?_) | refine WpA.cond rfl (fun _ => ?_) (fun _ => ?_)) | (guard_target =~ RunU _ _ _ _ [] _ _ _ _; first | refine RunU.nilL ?_ | refine RunU.nilD (by kernel_rfl) ?_) | (guard_target =~ RunU _ _ _ _ (Oper.mk _ (Op.call ⟨Callee.value _, _, _⟩) _ _ _ none :: _) _ _ _ _; first | refine RunU.cons (step_call (hS) (.sh (.sh (.sh .nil))) (.sh shows_any (.sh shows_any (.sh shows_any .nil))) rfl) ?_ | refine RunU.cons (step_call (hI) (.mv give_any (.sh (.mv give_any .nil))) (.mv (.sh shows_any (.mv .nil))) rfl) ?_) | (guard_target =~ RunU _ _ _ _ (Oper.mk _ _ _ _ _ none :: _) _ _ _ _; first | refine RunU.cons (step_index_als rfl rfl (nav_ct (by omega)) rfl (by with_reducible exact idx_lit _) (by omega) rfl) ?_ | refine RunU.cons (step_load rfl rfl (nav_ct (by omega)) rfl (ints_get (by omega)) rfl) ?_ | refine RunU.cons (step_store_ints rfl rfl (nav_ct (by omega)) rfl rfl (by omega)) ?_) | (guard_target =~ RunU _ _ _ _ (Oper.mk _ _ _ _ _ none :: _) _ _ _ _; refine RunU.cons step_any ?_) | refine Then.next ?_ | refine InBlock.next ?_ | refine Done.ret .nil (.io rfl (.sh (.sh .nil))) ?_ rfl | refine Done.normal .nil (.io rfl (.sh (.sh .nil))) ?_ rfl | refine Done.ret .nil (.io rfl (.sh (.sh .nil))) ?_ ?_ | refine Done.normal .nil (.io rfl (.sh (.sh .nil))) ?_ ?_)
    · rfl
    · show [(dCt R2).put [0, k * 1] (.sl true 1 (ints ((R2.getD (k * 1) []).set (1 * 1) ((R2.getD (k * 1) []).getD (1 * 1) 0 + e))))] = _
      rw [put_ct (by omega), h2, hget, ← hset, Nat.mul_one]
      rfl
end Go.Proofs.Ytleleajafgmpbaa
