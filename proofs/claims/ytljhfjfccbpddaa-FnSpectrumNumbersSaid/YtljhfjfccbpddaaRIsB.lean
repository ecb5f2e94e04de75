/- slices.Insert of one row into a slice of rows. No condition. -/
import Derived.Test.YtljhfjfccbpddaaRIsA
import Derived.Test.YtljhfjfccbpddaaRAcA
namespace Go.Proofs.Ytljhfjfccbpddaa
set_option maxHeartbeats 20000000
set_option linter.unusedVariables false
set_option linter.unusedSimpArgs false
open Go.Pv
open Go.ChangeShapes Go.WideShapes Go.ChangeAt Go.RowKit
attribute [local irreducible] RunU WpA Step CallG CallNG Done DoneN
theorem row_cells {w : World} {g : Nat} {cur : Array Value} {e : TypeId} (h : w.heap[g]? = some (.cells cur e (0, 0))) {us : List Value} {n : Nat} (h7 : cur.toList.take n = us) {j : Nat} {v : Value} (hj : us[j]? = some v) : w.cell? ⟨g, j, none⟩ = some v := by
  rw [cell_of_row w g j cur e (0, 0) h]
  rw [← h7, List.getElem?_take] at hj
  split at hj
  · simpa using hj
  · cases hj
theorem row_frozen {w : World} {g : Nat} {cur : Array Value} {e : TypeId} (h : w.heap[g]? = some (.cells cur e (0, 0))) (j : Nat) : w.frozen? ⟨g, j, none⟩ = false := by simp [World.frozen?, h]
theorem row_some {w : World} {g : Nat} {cur : Array Value} {e : TypeId} (h : w.heap[g]? = some (.cells cur e (0, 0))) {j : Nat} (hj : j < cur.size) : (w.cell? ⟨g, j, none⟩).isSome = true := by
  rw [cell_of_row w g j cur e (0, 0) h, Array.getElem?_eq_getElem hj]; rfl
theorem insB {A : List RV} {q : RV} {i : Nat} : (A.take i ++ q :: A.drop i).Perm (A ++ [q]) := by
  refine List.perm_middle.trans ?_
  rw [List.take_append_drop]
  exact (List.perm_append_comm (l₁ := [q]) (l₂ := A))
theorem insert_c (R : List (List Int)) (i : Nat) (r : List Int) (hi : i ≤ R.length) (hl : R.length ≤ 1000000) :
    CallA Try.prog 61 [.mv (.one (.sl true 1 (LL R))), aI i, .mv (.one (.sl true 1 (LL [r])))] [rLL (R.take i ++ r :: R.drop i)] [] := by
  unfold CallA CallG
  intro w vs M F hF hargs hnd hM
  simp only [ArgsR, ArgR, VR, RD] at hargs
  obtain ⟨v, us0, L1, L2, rfl, rfl, ⟨r1, ev, us, L0, Lp, rfl, hrow, hrds⟩, vi, us1, L3, L4, rfl, rfl, ⟨rfl, _, rfl, _⟩, v2, us2, L5, L6, rfl, rfl, ⟨r3, ev2, us3, M0, Mp, rfl, hrow2, hrds2⟩, rfl, rfl⟩ := hargs
  simp only [List.append_nil, List.nil_append] at hnd hM hF ⊢
  obtain ⟨τ, e1, rfl, hpool⟩ := rds_pool R _ _ _ _ hrds
  obtain ⟨A, rfl⟩ := pool_rvs hpool
  obtain ⟨τ2, e2, rfl, hpool2⟩ := rds_pool [r] _ _ _ _ hrds2
  obtain ⟨A2, rfl⟩ := pool_rvs hpool2
  have hA1 : (A.map RV.pr).map Prod.fst = A.map RV.v := by rw [List.map_map]; rfl
  have hA2 : rowsOf A = R := by rw [← e1, List.map_map]; rfl
  have hB2 : rowsOf A2 = [r] := by rw [← e2, List.map_map]; rfl
  have hB1 : (A2.map RV.pr).map Prod.fst = A2.map RV.v := by rw [List.map_map]; rfl
  rw [hA1] at hrow
  rw [hB1] at hrow2
  have hlen : A.length = R.length := by rw [← hA2]; simp [rowsOf]
  obtain ⟨q, rfl⟩ : ∃ q, A2 = [q] := by
    have : A2.length = 1 := by have := congrArg List.length hB2; simpa [rowsOf] using this
    match A2, this with
    | [q], _ => exact ⟨q, rfl⟩
  have hqr : q.r = r := by simpa [rowsOf] using hB2
  rcases hrow2 with ⟨_, e0, _⟩ | ⟨vb, m, vc, vcur, vety, rfl, g2, g3, g4, g5, g6, g7, rfl⟩
  · simp at e0
  have hm1 : m = 1 := by simpa using g3
  subst hm1
  have hvs : w.cell? ⟨vb, 0, none⟩ = some q.v := row_cells g2 g7 (by simp)
  have hLsub : ∀ g, g ∈ L0 ∨ g ∈ Lp ∨ g = vb ∨ g ∈ Mp → g < w.heap.size := fun g hg => hM g (by
    simp only [List.mem_append, List.mem_singleton]
    rcases hg with h | h | h | h
    · exact .inl (.inl h)
    · exact .inl (.inr h)
    · exact .inr (.inl h)
    · exact .inr (.inr h))
  simp only [List.nodup_append, List.mem_append, List.mem_singleton] at hnd
  obtain ⟨⟨nd0, ndp, d0p⟩, ⟨_, ndm, dvm⟩, dd⟩ := hnd
  have hone : ∀ v ∈ A.map RV.v, v.oneCell' = true := fun v hv => by
    obtain ⟨a, _, rfl⟩ := List.mem_map.1 hv; exact a.one
  have hBR : rowsOf (A.take i ++ q :: A.drop i) = R.take i ++ r :: R.drop i := by
    rw [← hA2, ← hqr]
    simp [rowsOf, List.map_take, List.map_drop]
  -- what is left to show, once the new slice is there
  have fin : ∀ (w' : World) (v' : Value) (Ln : List Nat), Keep w L0 w' → Row w' v' 1 ((A.take i ++ q :: A.drop i).map RV.v) Ln → (∀ g ∈ Ln, (g ∈ L0 ∨ w.heap.size ≤ g) ∧ g < w'.heap.size) → Ln.Nodup →
      ∃ us Lr Lo, Ending.returned v' = .returned (retVal us) ∧ Keep w (L0 ++ Lp ++ ([vb] ++ Mp)) w' ∧ VRs (Res true F) w' [rLL (R.take i ++ r :: R.drop i)] us Lr ∧
        OutsR (Res true F) w' [.mv (.one (.sl true 1 (LL R))), aI i, .mv (.one (.sl true 1 (LL [r])))] [v, .int .i64 i, .slice (some ⟨vb, 0, none⟩) 1 vc] [] Lo ∧ (Lr ++ Lo).Nodup ∧
        ∀ g ∈ Lr ++ Lo, g < w'.heap.size ∧ (g ∈ L0 ++ Lp ++ ([vb] ++ Mp) ∨ w.heap.size ≤ g) := by
    intro w' v' Ln hk hrow' hLn hndn
    have hpoolA : Pool w' ((A ++ [q]).map RV.pr) (Lp ++ Mp) := by
      rw [List.map_append]
      refine Pool.append (hpool.same fun g hg => hk.block g (hLsub g (.inr (.inl hg))) (fun h => d0p g h g hg rfl)) (hpool2.same fun g hg => hk.block g (hLsub g (.inr (.inr (.inr hg)))) (fun h => dd g (.inl h) g (.inr hg) rfl))
    obtain ⟨Lq, hpq, hperm⟩ := hpoolA.perm ((insB (A := A) (q := q) (i := i)).symm.map RV.pr)
    have hmix : Mixd (vals (A.take i ++ q :: A.drop i)) ((A.take i ++ q :: A.drop i).map RV.pr) (rowsOf (A.take i ++ q :: A.drop i)) := by
      have := Mixd.lits ((A.take i ++ q :: A.drop i).map RV.pr)
      rw [List.map_map, List.map_map, List.map_map] at this
      exact this
    have hrd0 : RD (Res true F) w' (.sl true 1 (vals (A.take i ++ q :: A.drop i))) (fun _ => v') v' Ln := by
      simp only [RD]
      exact ⟨trivial, _, Ln, [], by simp, hrow', RDs_of_rv _ _ _⟩
    obtain ⟨rz, Lz, hrd, hpz⟩ := rd_close (F' := Res true F) hrd0 hpq hmix
    rw [hBR] at hrd
    have hmem : ∀ g, g ∈ Lz → g ∈ Ln ∨ g ∈ Lp ∨ g ∈ Mp := fun g hg => by
      rw [hpz.mem_iff, List.mem_append, hperm.symm.mem_iff, List.mem_append] at hg
      exact hg
    refine ⟨[v'], Lz, [], rfl, ⟨hk.os, hk.tape, hk.output, hk.size, fun g hg hgM => hk.block g hg (fun h => hgM (by simp [h])), hk.drawn⟩, ?_, ?_, ?_, ?_⟩
    · simp only [VRs, VR]
      exact ⟨v', [], Lz, [], rfl, by simp, ⟨rz, hrd⟩, rfl, rfl⟩
    · simp only [OutsR]
      exact ⟨_, _, rfl, _, _, rfl, _, _, rfl, by simp⟩
    · rw [List.append_nil]
      refine hpz.nodup_iff.2 ?_
      rw [List.nodup_append]
      refine ⟨hndn, hperm.nodup_iff.1 (by rw [List.nodup_append]; exact ⟨ndp, ndm, fun g h1 g' h2 e => dd g (.inr h1) g' (.inr h2) e⟩), fun g h1 g' h2 e => ?_⟩
      subst e
      rw [hperm.symm.mem_iff, List.mem_append] at h2
      rcases (hLn g h1).1 with h3 | h3
      · rcases h2 with h2 | h2
        · exact d0p g h3 g h2 rfl
        · exact dd g (.inl h3) g (.inr h2) rfl
      · rcases h2 with h2 | h2
        · have := hLsub g (.inr (.inl h2)); omega
        · have := hLsub g (.inr (.inr (.inr h2))); omega
    · intro g hg
      rw [List.append_nil] at hg
      rcases hmem g hg with h | h | h
      · refine ⟨(hLn g h).2, ?_⟩
        rcases (hLn g h).1 with h3 | h3
        · exact .inl (by simp [h3])
        · exact .inr h3
      · exact ⟨Nat.lt_of_lt_of_le (hLsub g (.inr (.inl h))) hk.size, .inl (by simp [h])⟩
      · exact ⟨Nat.lt_of_lt_of_le (hLsub g (.inr (.inr (.inr h)))) hk.size, .inl (by simp [h])⟩
  have fresh : ∀ (cells : List Value) (G : Nat), (A.take i ++ q :: A.drop i).map RV.v = cells.take (A.length + 1) → A.length + 1 ≤ G → G ≤ maxLen → cells.length = G → ∀ w' : World, Keep w L0 w' → w'.heap[w.heap.size]? = some (.cells cells.toArray 22 (0, 0)) → w.heap.size < w'.heap.size →
      ∃ us Lr Lo, Ending.returned (.slice (some ⟨w.heap.size, 0, none⟩) (A.length + 1) G) = .returned (retVal us) ∧ Keep w (L0 ++ Lp ++ ([vb] ++ Mp)) w' ∧ VRs (Res true F) w' [rLL (R.take i ++ r :: R.drop i)] us Lr ∧
        OutsR (Res true F) w' [.mv (.one (.sl true 1 (LL R))), aI i, .mv (.one (.sl true 1 (LL [r])))] [v, .int .i64 i, .slice (some ⟨vb, 0, none⟩) 1 vc] [] Lo ∧ (Lr ++ Lo).Nodup ∧
        ∀ g ∈ Lr ++ Lo, g < w'.heap.size ∧ (g ∈ L0 ++ Lp ++ ([vb] ++ Mp) ∨ w.heap.size ≤ g) := by
    intro cells G hc h1 h2 h3 w' hk hh hs
    refine fin w' _ [w.heap.size] hk (.inr ⟨w.heap.size, A.length + 1, G, _, _, rfl, hh, ?_, h1, h2, by simp [h3], ?_, rfl⟩) (fun g hg => ?_) (by simp)
    · simp; omega
    · simpa using hc.symm
    · simp only [List.mem_singleton] at hg
      subst hg
      exact ⟨.inr (Nat.le_refl _), hs⟩
  rcases hrow with ⟨rfl, e0, rfl⟩ | ⟨b, n, c, cur, ety, rfl, h2, h3, h4, h5, h6, h7, rfl⟩
  · -- the nil slice
    have hAn : A = [] := by simpa using e0
    subst hAn
    have hi0 : i = 0 := by simp at hlen; omega
    subst hi0
    have hcall := ins_end_grow none 0 0 vb vc [] q.v w (Nat.le_refl _) (by omega) (by omega) rfl (fun _ => rfl) (fun a h => by cases h) (fun a h => by cases h) hvs q.one
    refine hcall.mono ?_
    rintro e w' ⟨rfl, rfl⟩
    have hge := grownCap_ge w 1 0 22
    have hcm : grownCap w 1 0 22 ≤ maxLen := grownCap_le_maxLen w 1 0 22 (by unfold maxLen; omega)
    refine fresh (([] ++ [q.v]) ++ (Builtin.zeroCells nilV.cells (grownCap w (0 + 1) 0 22 - (0 + 1))).toList) _ ?_ hge hcm ?_ _ (Keep.grow w _ _) ?_ ?_
    · simp
    · simp [Builtin.zeroCells, Value.cells]; omega
    · refine (alloc_new w.drew _).trans ?_
      simp
    · simp
  · have hnl : n = A.length := by rw [List.length_map] at h3; omega
    subst hnl
    have hbne : vb ≠ b := fun e => dd b (.inl (by simp)) vb (.inl rfl) e.symm
    have hcs : ∀ j v, (A.map RV.v)[j]? = some v → w.cell? ⟨b, j, none⟩ = some v := fun j v hj => row_cells h2 (n := A.length) (by simpa using h7) hj
    have h6' : cur.size = c := by omega
    have hc63 : c ≤ 9223372036854775807 := by unfold maxLen at h5; omega
    by_cases hin : i = A.length
    · subst hin
      by_cases hroom : A.length + 1 ≤ c
      · have hcall := ins_end_room b A.length c vb vc q.v w hroom hc63 (row_some h2 (by omega)) (row_frozen h2 _) hvs q.one
        refine hcall.mono ?_
        rintro e w' ⟨rfl, rfl⟩
        have hh := setCells_heap b ety [q.v] A.length w cur.toList (by simpa using h2) (by simp; omega)
        refine fin _ _ [b] (Keep.setCells b _ _ _) (.inr ⟨b, A.length + 1, c, _, ety, rfl, hh, by simp, hroom, h5, ?_, ?_, rfl⟩) (fun g hg => ⟨.inl hg, ?_⟩) (by simp)
        · rw [List.size_toArray, lay_len (by simp; omega)]; simp; omega
        · rw [Nat.mul_one, List.toList_toArray]
          unfold lay
          have e1 : cur.toList.take A.length = A.map RV.v := by simpa using h7
          rw [e1, List.take_append_of_le_length (by simp), List.take_of_length_le (by simp)]
          simp
        · simp only [List.mem_singleton] at hg
          subst hg
          exact Nat.lt_of_lt_of_le (hLsub _ (.inl (by simp))) (Keep.setCells _ _ _ _).size
      · have hcall := ins_end_grow (some ⟨b, 0, none⟩) A.length c vb vc (A.map RV.v) q.v w h4 (by omega) (by omega) (by simp) (fun h => by cases h) (fun a h => by cases h; rfl) (fun a h j v hj => by cases h; rw [addr_row]; exact hcs j v hj) hvs q.one
        refine hcall.mono ?_
        rintro e w' ⟨rfl, rfl⟩
        have hge := grownCap_ge w (A.length + 1) c 22
        have hcm : grownCap w (A.length + 1) c 22 ≤ maxLen := grownCap_le_maxLen w (A.length + 1) c 22 (by unfold maxLen; omega)
        refine fresh ((A.map RV.v ++ [q.v]) ++ (Builtin.zeroCells nilV.cells (grownCap w (A.length + 1) c 22 - (A.length + 1))).toList) _ ?_ hge hcm ?_ _ (Keep.grow w _ _) ?_ ?_
        · refine Eq.trans ?_ (List.take_left' (by simp)).symm
          simp
        · simp [Builtin.zeroCells, Value.cells]; omega
        · refine (alloc_new w.drew _).trans ?_
          simp
        · simp
    · have hlt : i < A.length := by omega
      by_cases hroom : A.length + 1 ≤ c
      · have hcall := ins_shift b A.length c i vb vc (A.map RV.v) q.v w hlt hroom hc63 hbne (by simp) hcs (fun j hj => row_some h2 (by omega)) (fun j _ => row_frozen h2 j) hvs hone q.one vety ety vcur.size cur.size (by simp [World.shape?, g2]) (by simp [World.shape?, h2]) (by omega) (row_frozen g2 _) (row_frozen g2 _)
        refine hcall.mono ?_
        rintro e w' ⟨rfl, rfl⟩
        have hh1 := setCells_heap b ety ((A.map RV.v).drop i) (i + 1) w.drew cur.toList (by rw [Array.toArray_toList]; exact h2) (by simp; omega)
        have hl1 : (lay cur.toList (i + 1) ((A.map RV.v).drop i)).length = cur.size := by rw [lay_len (by simp; omega)]; simp
        have hh2 := setCells_heap b ety [q.v] i (w.drew.setCells b (i + 1) ((A.map RV.v).drop i)) _ hh1 (by rw [hl1]; simp; omega)
        have hk : Keep w [b] ((w.drew.setCells b (i + 1) ((A.map RV.v).drop i)).setCells b i [q.v]) := ((show Keep w [b] w.drew from ⟨rfl, rfl, rfl, Nat.le_refl _, fun _ _ _ => rfl, Nat.le_succ _⟩).trans (Keep.setCells b _ _ _) (fun _ h _ => h)).trans (Keep.setCells b _ _ _) (fun _ h _ => h)
        refine fin _ _ [b] hk (.inr ⟨b, A.length + 1, c, _, ety, rfl, hh2, by simp; omega, hroom, h5, ?_, ?_, rfl⟩) (fun g hg => ⟨.inl hg, ?_⟩) (by simp)
        · rw [List.size_toArray, lay_len (by rw [hl1]; simp; omega), hl1]; omega
        · rw [Nat.mul_one, List.toList_toArray]
          have e1 : cur.toList.take A.length = A.map RV.v := by simpa using h7
          have e2 : cur.toList.take (i + 1) = (A.map RV.v).take (i + 1) := by rw [← e1, List.take_take]; congr 1; omega
          unfold lay
          rw [e2]
          have e3 : ((A.map RV.v).take (i + 1) ++ (A.map RV.v).drop i ++ cur.toList.drop (i + 1 + ((A.map RV.v).drop i).length)).take i = (A.map RV.v).take i := by
            rw [List.append_assoc, List.take_append_of_le_length (by simp; omega), List.take_take]; congr 1; omega
          have e4 : ((A.map RV.v).take (i + 1) ++ (A.map RV.v).drop i ++ cur.toList.drop (i + 1 + ((A.map RV.v).drop i).length)).drop (i + [q.v].length) = (A.map RV.v).drop i ++ cur.toList.drop (i + 1 + ((A.map RV.v).drop i).length) := by
            rw [List.append_assoc, List.drop_append_of_le_length (by simp; omega), List.drop_of_length_le (by simp; omega), List.nil_append]
          rw [e3, e4, ← List.append_assoc, List.take_append_of_le_length (by simp; omega), List.take_of_length_le (by simp; omega)]
          simp [List.map_take, List.map_drop]
        · simp only [List.mem_singleton] at hg
          subst hg
          exact Nat.lt_of_lt_of_le (hLsub _ (.inl (by simp))) hk.size
      · have hcall := ins_grow b A.length c i vb vc (A.map RV.v) q.v w hlt h4 (by omega) (by omega) (by simp) hcs hvs hone q.one
        refine hcall.mono ?_
        rintro e w' ⟨rfl, rfl⟩
        have hge := grownCap_ge w (A.length + 1) c 22
        have hcm : grownCap w (A.length + 1) c 22 ≤ maxLen := grownCap_le_maxLen w (A.length + 1) c 22 (by unfold maxLen; omega)
        generalize hROW : ((A.map RV.v).take i).toArray ++ Builtin.zeroCells nilV.cells (A.length + 1 - i) ++ Builtin.zeroCells nilV.cells (grownCap w (A.length + 1) c 22 - (A.length + 1)) = ROW
        have hRs : ROW.size = grownCap w (A.length + 1) c 22 := by rw [← hROW]; simp [Builtin.zeroCells, Value.cells]; omega
        have hRt : ROW.toList.take i = (A.map RV.v).take i := by
          rw [← hROW]
          simp only [Array.toList_append, List.toList_toArray, List.append_assoc]
          rw [List.take_append_of_le_length (by simp; omega), List.take_of_length_le (by simp; omega)]
        have h0 : ((w.alloc (.cells ROW 22)).drew).heap[w.heap.size]? = some (.cells ROW.toList.toArray 22 (0, 0)) := by
          rw [Array.toArray_toList]
          exact alloc_new w (.cells ROW 22)
        have hh1 := setCells_heap w.heap.size 22 [q.v] i _ ROW.toList h0 (by simp; omega)
        have hl1 : (lay ROW.toList i [q.v]).length = ROW.size := by rw [lay_len (by simp; omega)]; simp
        have hh2 := setCells_heap w.heap.size 22 ((A.map RV.v).drop i) (i + 1) (((w.alloc (.cells ROW 22)).drew.setCells w.heap.size i [q.v]).drew) _ hh1 (by rw [hl1]; simp; omega)
        have hsz : (((w.alloc (.cells ROW 22)).drew.setCells w.heap.size i [q.v]).drew.setCells w.heap.size (i + 1) ((A.map RV.v).drop i)).heap.size = w.heap.size + 1 := by
          have key : ∀ (vs : List Value) (o : Nat) (W : World), (W.setCells w.heap.size o vs).heap.size = W.heap.size := by
            intro vs
            induction vs with
            | nil => intro o W; rfl
            | cons x vs ih => intro o W; rw [World.setCells, ih]; simp [World.setCell]
          rw [key]
          show ((w.alloc (.cells ROW 22)).drew.setCells w.heap.size i [q.v]).heap.size = _
          rw [key]
          simp
        have hk : Keep w [b] (((w.alloc (.cells ROW 22)).drew.setCells w.heap.size i [q.v]).drew.setCells w.heap.size (i + 1) ((A.map RV.v).drop i)) := by
          have k1 : Keep w [] ((w.alloc (.cells ROW 22)).drew) := (Keep.alloc w _).trans (Keep.drew _) (fun _ h _ => h)
          have k2 : Keep w [] ((w.alloc (.cells ROW 22)).drew.setCells w.heap.size i [q.v]) := k1.trans (Keep.setCells w.heap.size _ _ _) (fun g h hl => by simp only [List.mem_singleton] at h; omega)
          have k3 : Keep w [] (((w.alloc (.cells ROW 22)).drew.setCells w.heap.size i [q.v]).drew) := k2.trans (Keep.drew _) (fun _ h _ => h)
          have k4 := k3.trans (Keep.setCells w.heap.size ((A.map RV.v).drop i) (i + 1) _) (fun g h hl => by simp only [List.mem_singleton] at h; omega)
          exact ⟨k4.os, k4.tape, k4.output, k4.size, fun g hg _ => k4.block g hg (by simp), k4.drawn⟩
        refine fresh _ _ ?_ hge hcm ?_ _ hk hh2 (by rw [hsz]; omega)
        · unfold lay
          rw [hRt]
          have e3 : ((A.map RV.v).take i ++ [q.v] ++ ROW.toList.drop (i + [q.v].length)).take (i + 1) = (A.map RV.v).take i ++ [q.v] := by
            rw [List.take_append_of_le_length (by simp; omega), List.take_of_length_le (by simp; omega)]
          rw [e3]
          refine Eq.trans ?_ (List.take_left' (by simp; omega)).symm
          simp [List.map_take, List.map_drop]
        · rw [lay_len (by rw [hl1]; simp; omega), hl1, hRs]
end Go.Proofs.Ytljhfjfccbpddaa
