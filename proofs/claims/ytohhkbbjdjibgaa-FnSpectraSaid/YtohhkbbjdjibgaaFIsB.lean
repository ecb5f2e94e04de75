/- A call of a function that is handed a function value, which writes into a captured variable. No condition. -/
import Derived.Test.YtohhkbbjdjibgaaFTy
import Derived.Test.YtohhkbbjdjibgaaFSqC
import Derived.Test.YtohhkbbjdjibgaaFCtI
import Derived.Test.YtohhkbbjdjibgaaFCtC
import Derived.Test.YtohhkbbjdjibgaaFPvV
set_option linter.unusedVariables false
set_option linter.unusedSimpArgs false
namespace Go.Proofs.Ytohhkbbjdjibgaa
set_option maxRecDepth 100000
set_option maxHeartbeats 20000000
open Go.Pv
open Go.ChangeShapes Go.WideShapes Go.ChangeAt Go.RowKit
attribute [local irreducible] RunU WpA Step CallG CallNG Done DoneN
theorem row_cells {w : World} {g o : Nat} {cur : Array Value} {e : TypeId} (h : w.heap[g]? = some (.cells cur e (0, 0))) {us : List Value} {n : Nat} (h7 : (cur.toList.drop o).take n = us) {j : Nat} {v : Value} (hj : us[j]? = some v) : w.cell? ⟨g, o + j, none⟩ = some v := by
 rw [cell_of_row w g (o + j) cur e (0, 0) h]
 rw [← h7, List.getElem?_take] at hj
 split at hj
 ·rw [List.getElem?_drop] at hj
  simpa using hj
 ·cases hj
theorem lay_drop {L vs : List Value} {o i : Nat} (h : o ≤ L.length) : (lay L (o + i) vs).drop o = lay (L.drop o) i vs := by
 unfold lay
 rw [List.append_assoc, List.drop_append_of_le_length (by rw [List.length_take]; omega), List.drop_take, Nat.add_sub_cancel_left, List.drop_drop, List.append_assoc, Nat.add_assoc]
theorem row_frozen {w : World} {g : Nat} {cur : Array Value} {e : TypeId} (h : w.heap[g]? = some (.cells cur e (0, 0))) (j : Nat) : w.frozen? ⟨g, j, none⟩ = false := by simp [World.frozen?, h]
theorem row_some {w : World} {g : Nat} {cur : Array Value} {e : TypeId} (h : w.heap[g]? = some (.cells cur e (0, 0))) {j : Nat} (hj : j < cur.size) : (w.cell? ⟨g, j, none⟩).isSome = true := by
 rw [cell_of_row w g j cur e (0, 0) h, Array.getElem?_eq_getElem hj]; rfl
theorem insB {A : List RV} {q : RV} {i : Nat} : (A.take i ++ q :: A.drop i).Perm (A ++ [q]) := by
 refine List.perm_middle.trans ?_
 rw [List.take_append_drop]
 exact (List.perm_append_comm (l₁ := [q]) (l₂ := A))
theorem insert_c (R : List (List Int)) (i : Nat) (r : List Int) (hi : i ≤ R.length) (hl : R.length ≤ 1000000) :
  CallA Try.prog 59 [.mv (.one (.sl true 1 (LL R))), aI i, .mv (.one (.sl true 1 (LL [r])))] [rLL (R.take i ++ r :: R.drop i)] [] := by
 unfold CallA CallG
 intro w vs M F hF hargs hnd hM
 simp only [ArgsR, ArgR, VR, RD] at hargs
 obtain ⟨v, us0, L1, L2, rfl, rfl, ⟨r1, ev, us, L0, Lp, rfl, hrow, hrds⟩, vi, us1, L3, L4, rfl, rfl, ⟨rfl, _, rfl, _⟩, v2, us2, L5, L6, rfl, rfl, ⟨r3, ev2, us3, M0, Mp, rfl, hrow2, hrds2⟩, rfl, rfl⟩ := hargs
 simp only [List.append_nil, List.nil_append] at hnd hM hF ⊢
 obtain ⟨τ, e1, rfl, hpool⟩ := rds_pool R _ _ _ _ hrds
 obtain ⟨A, rfl⟩ := pool_rvs hpool
 obtain ⟨τ2, e2, rfl, hpool2⟩ := rds_pool [r] _ _ _ _ hrds2
 obtain ⟨A2, rfl⟩ := pool_rvs hpool2
 have hA1 : (A.map RV.pr).map Prod.fst = A.map RV.v := by rw [List.map_map]; rfl
 have hA2 : rowsOf A = R := by rw [← e1, List.map_map]; rfl
 have hB2 : rowsOf A2 = [r] := by rw [← e2, List.map_map]; rfl
 have hB1 : (A2.map RV.pr).map Prod.fst = A2.map RV.v := by rw [List.map_map]; rfl
 rw [hA1] at hrow
 rw [hB1] at hrow2
 have hlen : A.length = R.length := by rw [← hA2]; simp [rowsOf]
 obtain ⟨q, rfl⟩ : ∃ q, A2 = [q] := by
  have : A2.length = 1 := by have := congrArg List.length hB2; simpa [rowsOf] using this
  match A2, this with
  | [q], _ => exact ⟨q, rfl⟩
 have hqr : q.r = r := by simpa [rowsOf] using hB2
 rcases hrow2 with ⟨_, e0, _⟩ | ⟨vb, vo, m, vc, vcur, vety, rfl, g2, g3, g4, g5, g6, g7, rfl⟩
 ·simp at e0
 have hm1 : m = 1 := by simpa using g3
 subst hm1
 have hvs : w.cell? ⟨vb, vo, none⟩ = some q.v := row_cells (j := 0) g2 g7 (by simp)
 have hLsub : ∀ g, g ∈ L0 ∨ g ∈ Lp ∨ g = vb ∨ g ∈ Mp → g < w.heap.size := fun g hg => hM g (by
  simp only [List.mem_append, List.mem_singleton]
  rcases hg with h | h | h | h
  ·exact .inl (.inl h)
  ·exact .inl (.inr h)
  ·exact .inr (.inl h)
  ·exact .inr (.inr h))
 simp only [List.nodup_append, List.mem_append, List.mem_singleton] at hnd
 obtain ⟨⟨nd0, ndp, d0p⟩, ⟨_, ndm, dvm⟩, dd⟩ := hnd
 have hone : ∀ v ∈ A.map RV.v, v.oneCell' = true := fun v hv => by
  obtain ⟨a, _, rfl⟩ := List.mem_map.1 hv; exact a.one
 have hBR : rowsOf (A.take i ++ q :: A.drop i) = R.take i ++ r :: R.drop i := by
  rw [← hA2, ← hqr]
  simp [rowsOf, List.map_take, List.map_drop]
 -- what is left to show, once the new slice is there
 have fin : ∀ (w' : World) (v' : Value) (Ln : List Nat), Keep w L0 w' → Row w' v' 1 ((A.take i ++ q :: A.drop i).map RV.v) Ln → (∀ g ∈ Ln, (g ∈ L0 ∨ w.heap.size ≤ g) ∧ g < w'.heap.size) → Ln.Nodup →
   ∃ us Lr Lo, Ending.returned v' = .returned (retVal us) ∧ Keep w (L0 ++ Lp ++ ([vb] ++ Mp)) w' ∧ VRs (Res true F) w' [rLL (R.take i ++ r :: R.drop i)] us Lr ∧
    OutsR (Res true F) w' [.mv (.one (.sl true 1 (LL R))), aI i, .mv (.one (.sl true 1 (LL [r])))] [v, .int .i64 i, .slice (some ⟨vb, vo, none⟩) 1 vc] [] Lo ∧ (Lr ++ Lo).Nodup ∧
    ∀ g ∈ Lr ++ Lo, g < w'.heap.size ∧ (g ∈ L0 ++ Lp ++ ([vb] ++ Mp) ∨ w.heap.size ≤ g) := by
  intro w' v' Ln hk hrow' hLn hndn
  have hpoolA : Pool w' ((A ++ [q]).map RV.pr) (Lp ++ Mp) := by
   rw [List.map_append]
   refine Pool.append (hpool.same fun g hg => hk.block g (hLsub g (.inr (.inl hg))) (fun h => d0p g h g hg rfl)) (hpool2.same fun g hg => hk.block g (hLsub g (.inr (.inr (.inr hg)))) (fun h => dd g (.inl h) g (.inr hg) rfl))
  obtain ⟨Lq, hpq, hperm⟩ := hpoolA.perm ((insB (A := A) (q := q) (i := i)).symm.map RV.pr)
  have hmix : Mixd (vals (A.take i ++ q :: A.drop i)) ((A.take i ++ q :: A.drop i).map RV.pr) (rowsOf (A.take i ++ q :: A.drop i)) := by
   have := Mixd.lits ((A.take i ++ q :: A.drop i).map RV.pr)
   rw [List.map_map, List.map_map, List.map_map] at this
   exact this
  have hrd0 : RD (Res true F) w' (.sl true 1 (vals (A.take i ++ q :: A.drop i))) (fun _ => v') v' Ln := by
   simp only [RD]
   exact ⟨trivial, _, Ln, [], by simp, hrow', RDs_of_rv _ _ _⟩
  obtain ⟨rz, Lz, hrd, hpz⟩ := rd_close (F' := Res true F) hrd0 hpq hmix
  rw [hBR] at hrd
  have hmem : ∀ g, g ∈ Lz → g ∈ Ln ∨ g ∈ Lp ∨ g ∈ Mp := fun g hg => by
   rw [hpz.mem_iff, List.mem_append, hperm.symm.mem_iff, List.mem_append] at hg
   exact hg
  refine ⟨[v'], Lz, [], rfl, ⟨hk.os, hk.tape, hk.output, hk.size, fun g hg hgM => hk.block g hg (fun h => hgM (by simp [h])), hk.drawn⟩, ?_, ?_, ?_, ?_⟩
  ·simp only [VRs, VR]
   exact ⟨v', [], Lz, [], rfl, by simp, ⟨rz, hrd⟩, rfl, rfl⟩
  ·simp only [OutsR]
   exact ⟨_, _, rfl, _, _, rfl, _, _, rfl, by simp⟩
  ·rw [List.append_nil]
   refine hpz.nodup_iff.2 ?_
   rw [List.nodup_append]
   refine ⟨hndn, hperm.nodup_iff.1 (by rw [List.nodup_append]; exact ⟨ndp, ndm, fun g h1 g' h2 e => dd g (.inr h1) g' (.inr h2) e⟩), fun g h1 g' h2 e => ?_⟩
   subst e
   rw [hperm.symm.mem_iff, List.mem_append] at h2
   rcases (hLn g h1).1 with h3 | h3
   ·rcases h2 with h2 | h2
    ·exact d0p g h3 g h2 rfl
    ·exact dd g (.inl h3) g (.inr h2) rfl
   ·rcases h2 with h2 | h2
    ·have := hLsub g (.inr (.inl h2)); omega
    ·have := hLsub g (.inr (.inr (.inr h2))); omega
  ·intro g hg
   rw [List.append_nil] at hg
   rcases hmem g hg with h | h | h
   ·refine ⟨(hLn g h).2, ?_⟩
    rcases (hLn g h).1 with h3 | h3
    ·exact .inl (by simp [h3])
    ·exact .inr h3
   ·exact ⟨Nat.lt_of_lt_of_le (hLsub g (.inr (.inl h))) hk.size, .inl (by simp [h])⟩
   ·exact ⟨Nat.lt_of_lt_of_le (hLsub g (.inr (.inr (.inr h)))) hk.size, .inl (by simp [h])⟩
 have fresh : ∀ (cells : List Value) (G : Nat), (A.take i ++ q :: A.drop i).map RV.v = cells.take (A.length + 1) → A.length + 1 ≤ G → G ≤ maxLen → cells.length = G → ∀ w' : World, Keep w L0 w' → w'.heap[w.heap.size]? = some (.cells cells.toArray 26 (0, 0)) → w.heap.size < w'.heap.size →
   ∃ us Lr Lo, Ending.returned (.slice (some ⟨w.heap.size, 0, none⟩) (A.length + 1) G) = .returned (retVal us) ∧ Keep w (L0 ++ Lp ++ ([vb] ++ Mp)) w' ∧ VRs (Res true F) w' [rLL (R.take i ++ r :: R.drop i)] us Lr ∧
    OutsR (Res true F) w' [.mv (.one (.sl true 1 (LL R))), aI i, .mv (.one (.sl true 1 (LL [r])))] [v, .int .i64 i, .slice (some ⟨vb, vo, none⟩) 1 vc] [] Lo ∧ (Lr ++ Lo).Nodup ∧
    ∀ g ∈ Lr ++ Lo, g < w'.heap.size ∧ (g ∈ L0 ++ Lp ++ ([vb] ++ Mp) ∨ w.heap.size ≤ g) := by
  intro cells G hc h1 h2 h3 w' hk hh hs
  refine fin w' _ [w.heap.size] hk (Row.mk0 ⟨w.heap.size, A.length + 1, G, _, _, rfl, hh, ?_, h1, h2, by simp [h3], ?_, rfl⟩) (fun g hg => ?_) (by simp)
  ·simp; omega
  ·simpa using hc.symm
  ·simp only [List.mem_singleton] at hg
   subst hg
   exact ⟨.inr (Nat.le_refl _), hs⟩
 rcases hrow with ⟨rfl, e0, rfl⟩ | ⟨b, bo, n, c, cur, ety, rfl, h2, h3, h4, h5, h6, h7, rfl⟩
 ·-- the nil slice
  have hAn : A = [] := by simpa using e0
  subst hAn
  have hi0 : i = 0 := by simp at hlen; omega
  subst hi0
  have hcall := ins_end_grow none 0 0 vb vo vc [] q.v w (Nat.le_refl _) (by omega) (by omega) rfl (fun _ => rfl) (fun a h => by cases h) (fun a h => by cases h) hvs q.one
  refine hcall.mono ?_
  rintro e w' ⟨rfl, rfl⟩
  have hge := grownCap_ge w 1 0 26
  have hcm : grownCap w 1 0 26 ≤ maxLen := grownCap_le_maxLen w 1 0 26 (by unfold maxLen; omega)
  refine fresh (([] ++ [q.v]) ++ (Builtin.zeroCells nilV.cells (grownCap w (0 + 1) 0 26 - (0 + 1))).toList) _ ?_ hge hcm ?_ _ (Keep.grow w _ _) ?_ ?_
  ·simp
  ·simp [Builtin.zeroCells, Value.cells]; omega
  ·refine (alloc_new w.drew _).trans ?_
   simp
  ·simp
 ·have hnl : n = A.length := by rw [List.length_map] at h3; omega
  subst hnl
  have hbne : vb ≠ b := fun e => dd b (.inl (by simp)) vb (.inl rfl) e.symm
  have hcs : ∀ j v, (A.map RV.v)[j]? = some v → w.cell? ⟨b, bo + j, none⟩ = some v := fun j v hj => row_cells h2 (n := A.length) (by simpa using h7) hj
  have h6' : bo + c ≤ cur.size := by omega
  have hbo : bo ≤ cur.toList.length := by rw [Array.length_toList]; omega
  have hc63 : c ≤ 9223372036854775807 := by unfold maxLen at h5; omega
  by_cases hin : i = A.length
  ·subst hin
   by_cases hroom : A.length + 1 ≤ c
   ·have hcall := ins_end_room b bo A.length c vb vo vc q.v w hroom hc63 (row_some h2 (by omega)) (row_frozen h2 _) hvs q.one
    refine hcall.mono ?_
    rintro e w' ⟨rfl, rfl⟩
    have hh := setCells_heap b ety [q.v] (bo + A.length) w cur.toList (by simpa using h2) (by simp; omega)
    refine fin _ _ [b] (Keep.setCells b _ _ _) (.inr ⟨b, bo, A.length + 1, c, _, ety, rfl, hh, by simp, hroom, h5, ?_, ?_, rfl⟩) (fun g hg => ⟨.inl hg, ?_⟩) (by simp)
    ·rw [List.size_toArray, lay_len (by simp; omega)]; simp; omega
    ·rw [Nat.mul_one, List.toList_toArray, lay_drop hbo]
     unfold lay
     have e1 : (cur.toList.drop bo).take A.length = A.map RV.v := by simpa using h7
     rw [e1, List.take_append_of_le_length (by simp), List.take_of_length_le (by simp)]
     simp
    ·simp only [List.mem_singleton] at hg
     subst hg
     exact Nat.lt_of_lt_of_le (hLsub _ (.inl (by simp))) (Keep.setCells _ _ _ _).size
   ·have hcall := ins_end_grow (some ⟨b, bo, none⟩) A.length c vb vo vc (A.map RV.v) q.v w h4 (by omega) (by omega) (by simp) (fun h => by cases h) (fun a h => by cases h; rfl) (fun a h j v hj => by cases h; rw [Addr.add_lit]; exact hcs j v hj) hvs q.one
    refine hcall.mono ?_
    rintro e w' ⟨rfl, rfl⟩
    have hge := grownCap_ge w (A.length + 1) c 26
    have hcm : grownCap w (A.length + 1) c 26 ≤ maxLen := grownCap_le_maxLen w (A.length + 1) c 26 (by unfold maxLen; omega)
    refine fresh ((A.map RV.v ++ [q.v]) ++ (Builtin.zeroCells nilV.cells (grownCap w (A.length + 1) c 26 - (A.length + 1))).toList) _ ?_ hge hcm ?_ _ (Keep.grow w _ _) ?_ ?_
    ·refine Eq.trans ?_ (List.take_left' (by simp)).symm
     simp
    ·simp [Builtin.zeroCells, Value.cells]; omega
    ·refine (alloc_new w.drew _).trans ?_
     simp
    ·simp
  ·have hlt : i < A.length := by omega
   by_cases hroom : A.length + 1 ≤ c
   ·have hcall := ins_shift b bo A.length c i vb vo vc (A.map RV.v) q.v w hlt hroom hc63 hbne (by simp) hcs (fun j hj => row_some h2 (by omega)) (fun j _ => row_frozen h2 _) hvs hone q.one vety ety vcur.size cur.size (by simp [World.shape?, g2]) (by simp [World.shape?, h2]) (by omega) (row_frozen g2 _) (row_frozen g2 _)
    refine hcall.mono ?_
    rintro e w' ⟨rfl, rfl⟩
    have hh1 := setCells_heap b ety ((A.map RV.v).drop i) (bo + (i + 1)) w.drew cur.toList (by rw [Array.toArray_toList]; exact h2) (by simp; omega)
    have hl1 : (lay cur.toList (bo + (i + 1)) ((A.map RV.v).drop i)).length = cur.size := by rw [lay_len (by simp; omega)]; simp
    have hh2 := setCells_heap b ety [q.v] (bo + i) (w.drew.setCells b (bo + (i + 1)) ((A.map RV.v).drop i)) _ hh1 (by rw [hl1]; simp; omega)
    have hk : Keep w [b] ((w.drew.setCells b (bo + (i + 1)) ((A.map RV.v).drop i)).setCells b (bo + i) [q.v]) := ((show Keep w [b] w.drew from ⟨rfl, rfl, rfl, Nat.le_refl _, fun _ _ _ => rfl, Nat.le_succ _⟩).trans (Keep.setCells b _ _ _) (fun _ h _ => h)).trans (Keep.setCells b _ _ _) (fun _ h _ => h)
    refine fin _ _ [b] hk (.inr ⟨b, bo, A.length + 1, c, _, ety, rfl, hh2, by simp; omega, hroom, h5, ?_, ?_, rfl⟩) (fun g hg => ⟨.inl hg, ?_⟩) (by simp)
    ·rw [List.size_toArray, lay_len (by rw [hl1]; simp; omega), hl1]; omega
    ·rw [Nat.mul_one, List.toList_toArray, lay_drop (by rw [hl1]; omega), lay_drop hbo]
     have e1 : (cur.toList.drop bo).take A.length = A.map RV.v := by simpa using h7
     generalize cur.toList.drop bo = CL at e1 ⊢
     have e2 : CL.take (i + 1) = (A.map RV.v).take (i + 1) := by rw [← e1, List.take_take]; congr 1; omega
     unfold lay
     rw [e2]
     have e3 : ((A.map RV.v).take (i + 1) ++ (A.map RV.v).drop i ++ CL.drop (i + 1 + ((A.map RV.v).drop i).length)).take i = (A.map RV.v).take i := by
      rw [List.append_assoc, List.take_append_of_le_length (by simp; omega), List.take_take]; congr 1; omega
     have e4 : ((A.map RV.v).take (i + 1) ++ (A.map RV.v).drop i ++ CL.drop (i + 1 + ((A.map RV.v).drop i).length)).drop (i + [q.v].length) = (A.map RV.v).drop i ++ CL.drop (i + 1 + ((A.map RV.v).drop i).length) := by
      rw [List.append_assoc, List.drop_append_of_le_length (by simp; omega), List.drop_of_length_le (by simp; omega), List.nil_append]
     rw [e3, e4, ← List.append_assoc, List.take_append_of_le_length (by simp; omega), List.take_of_length_le (by simp; omega)]
     simp [List.map_take, List.map_drop]
    ·simp only [List.mem_singleton] at hg
     subst hg
     exact Nat.lt_of_lt_of_le (hLsub _ (.inl (by simp))) hk.size
   ·have hcall := ins_grow b bo A.length c i vb vo vc (A.map RV.v) q.v w hlt h4 (by omega) (by omega) (by simp) hcs hvs hone q.one
    refine hcall.mono ?_
    rintro e w' ⟨rfl, rfl⟩
    have hge := grownCap_ge w (A.length + 1) c 26
    have hcm : grownCap w (A.length + 1) c 26 ≤ maxLen := grownCap_le_maxLen w (A.length + 1) c 26 (by unfold maxLen; omega)
    generalize hROW : ((A.map RV.v).take i).toArray ++ Builtin.zeroCells nilV.cells (A.length + 1 - i) ++ Builtin.zeroCells nilV.cells (grownCap w (A.length + 1) c 26 - (A.length + 1)) = ROW
    have hRs : ROW.size = grownCap w (A.length + 1) c 26 := by rw [← hROW]; simp [Builtin.zeroCells, Value.cells]; omega
    have hRt : ROW.toList.take i = (A.map RV.v).take i := by
     rw [← hROW]
     simp only [Array.toList_append, List.toList_toArray, List.append_assoc]
     rw [List.take_append_of_le_length (by simp; omega), List.take_of_length_le (by simp; omega)]
    have h0 : ((w.alloc (.cells ROW 26)).drew).heap[w.heap.size]? = some (.cells ROW.toList.toArray 26 (0, 0)) := by
     rw [Array.toArray_toList]
     exact alloc_new w (.cells ROW 26)
    have hh1 := setCells_heap w.heap.size 26 [q.v] i _ ROW.toList h0 (by simp; omega)
    have hl1 : (lay ROW.toList i [q.v]).length = ROW.size := by rw [lay_len (by simp; omega)]; simp
    have hh2 := setCells_heap w.heap.size 26 ((A.map RV.v).drop i) (i + 1) (((w.alloc (.cells ROW 26)).drew.setCells w.heap.size i [q.v]).drew) _ hh1 (by rw [hl1]; simp; omega)
    have hsz : (((w.alloc (.cells ROW 26)).drew.setCells w.heap.size i [q.v]).drew.setCells w.heap.size (i + 1) ((A.map RV.v).drop i)).heap.size = w.heap.size + 1 := by
     have key : ∀ (vs : List Value) (o : Nat) (W : World), (W.setCells w.heap.size o vs).heap.size = W.heap.size := by
      intro vs
      induction vs with
      | nil => intro o W; rfl
      | cons x vs ih => intro o W; rw [World.setCells, ih]; simp [World.setCell]
     rw [key]
     show ((w.alloc (.cells ROW 26)).drew.setCells w.heap.size i [q.v]).heap.size = _
     rw [key]
     simp
    have hk : Keep w [b] (((w.alloc (.cells ROW 26)).drew.setCells w.heap.size i [q.v]).drew.setCells w.heap.size (i + 1) ((A.map RV.v).drop i)) := by
     have k1 : Keep w [] ((w.alloc (.cells ROW 26)).drew) := (Keep.alloc w _).trans (Keep.drew _) (fun _ h _ => h)
     have k2 : Keep w [] ((w.alloc (.cells ROW 26)).drew.setCells w.heap.size i [q.v]) := k1.trans (Keep.setCells w.heap.size _ _ _) (fun g h hl => by simp only [List.mem_singleton] at h; omega)
     have k3 : Keep w [] (((w.alloc (.cells ROW 26)).drew.setCells w.heap.size i [q.v]).drew) := k2.trans (Keep.drew _) (fun _ h _ => h)
     have k4 := k3.trans (Keep.setCells w.heap.size ((A.map RV.v).drop i) (i + 1) _) (fun g h hl => by simp only [List.mem_singleton] at h; omega)
     exact ⟨k4.os, k4.tape, k4.output, k4.size, fun g hg _ => k4.block g hg (by simp), k4.drawn⟩
    refine fresh _ _ ?_ hge hcm ?_ _ hk hh2 (by rw [hsz]; omega)
    ·unfold lay
     rw [hRt]
     have e3 : ((A.map RV.v).take i ++ [q.v] ++ ROW.toList.drop (i + [q.v].length)).take (i + 1) = (A.map RV.v).take i ++ [q.v] := by
      rw [List.take_append_of_le_length (by simp; omega), List.take_of_length_le (by simp; omega)]
     rw [e3]
     refine Eq.trans ?_ (List.take_left' (by simp; omega)).symm
     simp [List.map_take, List.map_drop]
    ·rw [lay_len (by rw [hl1]; simp; omega), hl1, hRs]
instance fnOk57 : FnOk Try.prog 57 := ⟨_, Try.func57, rfl, by decide⟩
instance fnOk58 : FnOk Try.prog 58 := ⟨_, Try.func58, rfl, by decide⟩
instance fnOk41 : FnOk Try.prog 41 := ⟨_, Try.func41, rfl, by decide⟩
instance fnOk59 : FnOk Try.prog 59 := ⟨_, Try.func59, rfl, by decide⟩
def atR (m : Int) : List (List Int) → Nat
 | [] => 0
 | r :: t => if r.getD 0 0 < m then atR m t + 1 else 0
def putR : List (List Int) → Int → Int → List (List Int)
 | [], m, e => [[m, e]]
 | r :: t, m, e => if r.getD 0 0 < m then r :: putR t m e else if r.getD 0 0 = m then r.set 1 (r.getD 1 0 + e) :: t else [m, e] :: r :: t
theorem atR_le (m : Int) : ∀ R, atR m R ≤ R.length
 | [] => Nat.le_refl _
 | r :: t => by
  have := atR_le m t
  simp only [atR, List.length_cons]
  split <;> omega
theorem atR_low (m : Int) : ∀ (R : List (List Int)) (i : Nat), i < atR m R → (R.getD i []).getD 0 0 < m
 | [], i, h => by simp [atR] at h
 | r :: t, i, h => by
  simp only [atR] at h
  split at h
  ·rename_i h1
   cases i with
   | zero => simpa using h1
   | succ i => simpa using atR_low m t i (by omega)
  ·omega
theorem atR_not (m : Int) : ∀ (R : List (List Int)), atR m R < R.length → ¬ (R.getD (atR m R) []).getD 0 0 < m
 | [], h => by simp at h
 | r :: t, h => by
  by_cases h1 : r.getD 0 0 < m
  ·have e : atR m (r :: t) = atR m t + 1 := by rw [atR, if_pos h1]
   rw [e] at h ⊢
   simpa using atR_not m t (by simpa using h)
  ·have e : atR m (r :: t) = 0 := by rw [atR, if_neg h1]
   rw [e]
   simpa using h1
theorem putR_has (m e : Int) : ∀ (R : List (List Int)), atR m R < R.length → (R.getD (atR m R) []).getD 0 0 = m → putR R m e = R.set (atR m R) ((R.getD (atR m R) []).set 1 ((R.getD (atR m R) []).getD 1 0 + e))
 | [], h, _ => by simp at h
 | r :: t, h, hm => by
  by_cases h1 : r.getD 0 0 < m
  ·have e : atR m (r :: t) = atR m t + 1 := by rw [atR, if_pos h1]
   rw [e] at h hm ⊢
   rw [putR, if_pos h1, putR_has m _ t (by simpa using h) (by simpa using hm)]
   simp
  ·have e : atR m (r :: t) = 0 := by rw [atR, if_neg h1]
   rw [e] at h hm ⊢
   simp only [List.getD_cons_zero] at hm
   rw [putR, if_neg h1, if_pos hm]
   simp
theorem putR_new (m e : Int) : ∀ (R : List (List Int)), (atR m R < R.length → ¬ (R.getD (atR m R) []).getD 0 0 = m) → putR R m e = R.take (atR m R) ++ [m, e] :: R.drop (atR m R)
 | [], _ => rfl
 | r :: t, hm => by
  by_cases h1 : r.getD 0 0 < m
  ·have e : atR m (r :: t) = atR m t + 1 := by rw [atR, if_pos h1]
   rw [e] at hm ⊢
   rw [putR, if_pos h1, putR_new m _ t (fun h => by simpa using hm (by simpa using h))]
   simp
  ·have e : atR m (r :: t) = 0 := by rw [atR, if_neg h1]
   rw [e] at hm ⊢
   have hm := hm (by simp)
   simp only [List.getD_cons_zero] at hm
   rw [putR, if_neg h1, if_neg hm]
   simp
def AscR (R : List (List Int)) : Prop := R.Pairwise fun a b => a.getD 0 0 < b.getD 0 0
def RowsR (R : List (List Int)) (b : Int) : Prop := ∀ r ∈ R, r.length = 2 ∧ -b ≤ r.getD 1 0 ∧ r.getD 1 0 ≤ b
theorem putR_head (m e : Int) : ∀ (R : List (List Int)) (r : List Int), r ∈ putR R m e → r.getD 0 0 = m ∨ ∃ q ∈ R, r.getD 0 0 = q.getD 0 0
 | [], r, h => by
  simp only [putR, List.mem_singleton] at h
  subst h
  exact .inl rfl
 | q :: t, r, h => by
  rw [putR] at h
  split at h
  ·rcases List.mem_cons.1 h with rfl | h
   ·exact .inr ⟨r, by simp, rfl⟩
   ·rcases putR_head m e t r h with h | ⟨p, hp, h⟩
    ·exact .inl h
    ·exact .inr ⟨p, by simp [hp], h⟩
  ·split at h
   ·rcases List.mem_cons.1 h with rfl | h
    ·refine .inr ⟨q, by simp, ?_⟩
     rw [List.getD_eq_getElem?_getD, List.getElem?_set_ne (by omega), ← List.getD_eq_getElem?_getD]
    ·exact .inr ⟨r, by simp [h], rfl⟩
   ·rcases List.mem_cons.1 h with rfl | h
    ·exact .inl rfl
    ·exact .inr ⟨r, h, rfl⟩
theorem putR_asc {m e : Int} : ∀ {R : List (List Int)}, AscR R → AscR (putR R m e)
 | [], _ => by simp [putR, AscR]
 | q :: t, h => by
  have h0 := List.pairwise_cons.1 h
  rw [putR]
  split
  ·rename_i h1
   refine List.pairwise_cons.2 ⟨fun r hr => ?_, putR_asc h0.2⟩
   rcases putR_head m e t r hr with h | ⟨p, hp, h⟩
   ·rw [h]; exact h1
   ·rw [h]; exact h0.1 p hp
  ·split
   ·refine List.pairwise_cons.2 ⟨fun r hr => ?_, h0.2⟩
    rw [List.getD_eq_getElem?_getD, List.getElem?_set_ne (by omega), ← List.getD_eq_getElem?_getD]
    exact h0.1 r hr
   ·rename_i h1 h2
    refine List.pairwise_cons.2 ⟨fun r hr => ?_, h⟩
    simp only [List.getD_cons_zero]
    rcases List.mem_cons.1 hr with rfl | hr
    ·omega
    ·have := h0.1 r hr
     omega
theorem putR_rows {m e b c : Int} (hb : 0 ≤ b) (he : -c ≤ e ∧ e ≤ c) : ∀ {R : List (List Int)}, RowsR R b → RowsR (putR R m e) (b + c)
 | [], _ => fun r hr => by
  simp only [putR, List.mem_singleton] at hr
  subst hr
  simp
  omega
 | q :: t, h => by
  have hq := h q (by simp)
  have ht : RowsR t b := fun r hr => h r (by simp [hr])
  have up : ∀ r ∈ t, r.length = 2 ∧ -(b + c) ≤ r.getD 1 0 ∧ r.getD 1 0 ≤ b + c := fun r hr => by
   have := ht r hr
   omega
  intro r hr
  rw [putR] at hr
  split at hr
  ·rcases List.mem_cons.1 hr with rfl | hr
   ·omega
   ·exact putR_rows hb he ht r hr
  ·split at hr
   ·rcases List.mem_cons.1 hr with rfl | hr
    ·rw [List.length_set, List.getD_eq_getElem?_getD, List.getElem?_set_self (by omega), Option.getD_some]
     omega
    ·exact up r hr
   ·rcases List.mem_cons.1 hr with rfl | hr
    ·simp
     omega
    ·rcases List.mem_cons.1 hr with rfl | hr
     ·omega
     ·exact up r hr
theorem putR_len (m e : Int) : ∀ (R : List (List Int)), (putR R m e).length ≤ R.length + 1
 | [] => by simp [putR]
 | q :: t => by
  have := putR_len m e t
  rw [putR]
  split
  ·simp; omega
  ·split <;> simp
theorem RowsR.at {R : List (List Int)} {b : Int} (h : RowsR R b) {i : Nat} (hi : i < R.length) : (R.getD i []).length = 2 ∧ -b ≤ (R.getD i []).getD 1 0 ∧ (R.getD i []).getD 1 0 ≤ b := by
 rw [List.getD_eq_getElem?_getD, List.getElem?_eq_getElem hi, Option.getD_some]
 exact h _ (List.getElem_mem hi)
theorem AscR.lt {R : List (List Int)} (h : AscR R) {i j : Nat} (hij : i < j) (hj : j < R.length) : (R.getD i []).getD 0 0 < (R.getD j []).getD 0 0 := by
 have e : ∀ k (hk : k < R.length), R.getD k [] = R[k] := fun k hk => by rw [List.getD_eq_getElem?_getD, List.getElem?_eq_getElem hk, Option.getD_some]
 rw [e i (by omega), e j hj]
 exact List.pairwise_iff_getElem.1 h i j (by omega) hj hij
theorem atR_iff {m : Int} {R : List (List Int)} (h : AscR R) {i : Nat} (hi : i < R.length) : (R.getD i []).getD 0 0 < m ↔ i < atR m R := by
 constructor
 ·intro hm
  refine Decidable.byContradiction fun hn => ?_
  have h1 := atR_not m R (by omega)
  rcases Nat.lt_or_eq_of_le (Nat.le_of_not_lt hn) with h2 | h2
  ·have := h.lt h2 hi
   omega
  ·rw [h2] at h1
   exact h1 hm
 ·exact atR_low m R i
def half (a : Int) : Int := a.fdiv (2 ^ 1)
theorem half_nat {a b : Nat} : half ((a : Int) + (b : Int)) = (((a + b) / 2 : Nat) : Int) := by
 unfold half
 rw [Int.fdiv_eq_ediv_of_nonneg _ (by decide)]
 omega
section
variable {P : Program} {n : NN} {nid : Nat} {st : Nat → AV} {d : Nat} {x y : Operand} {a b : Int} {T T' : TypeId} {ty pos aft g}
theorem step_half (hx : Go.Pv.Lit st x (.int .u64 a)) (hy : Go.Pv.Lit st y (.int .u64 1)) (e : half a = b) (hd : n d = true) : Step P n ⟨some d, .binOp .shr T x y T', ty, pos, aft, g⟩ nid st (rdOf x ++ rdOf y) [(d, .c (.lit (.int .u64 b)))] :=
 step_bin hx hy rfl (fun w => by subst e; simp [eqGuard_int, binOp, Op.shift, half, IntKind.bits]) hd
end
theorem wrap_u64 {a : Int} (h : 0 ≤ a ∧ a ≤ 9223372036854775807) : IntKind.u64.wrap a = a := by
 simp only [IntKind.wrap, IntKind.bits, IntKind.signed]
 simp
 omega
section
variable {P : Program} {n : NN} {nid : Nat} {st : Nat → AV} {d : Nat} {x : Operand} {a : Int} {S T : TypeId} {ty pos aft g}
theorem step_toU {k0 k1 : IntKind} [hT : IntTy P T .u64] [hS : IntTy P S k1] (hx : Go.Pv.Lit st x (.int k0 a)) (h : 0 ≤ a ∧ a ≤ 9223372036854775807) (hd : n d = true) : Step P n ⟨some d, .convert S T x, ty, pos, aft, g⟩ nid st (rdOf x) [(d, .c (.lit (.int .u64 a)))] := by
 have := step_convert (P := P) (n := n) (nid := nid) (S := S) (T := T) (ty := ty) (pos := pos) (aft := aft) (g := g) hx hd
 rwa [wrap_u64 h] at this
end
attribute [local irreducible] half
def cmpJ (a b : Int) : Int := if a < b then -1 else if b < a then 1 else 0
theorem addCmp_c (r : List Int) (m : Int) (hr : 0 < r.length) : CallA Try.prog 58 [aL r, aI m] [rI (cmpJ (r.getD (0 * 1) 0) m)] [] := by
 refine cA_ _ Try.func58 rfl Try.ntmps58 (by first | exact ⟨rfl, rfl⟩ | (simp only [List.all_cons, List.all_nil, V.solid, D.solid, D.solids, solids_ints, solids_bools, solids_LL, Bool.and_self, Bool.and_true, and_self]; done) | simp [V.solid, D.solid, D.solids, solids_lits, solids_ints, solids_bools, solids_LL]) ?_
 repeat' (first | (guard_target =~ WpA _ _ _ _ _ _; first | refine WpA.seq ?_ | refine WpA.drawU ?_ | refine WpA.regionU ?_ | refine WpA.block ?_ | refine WpA.ret ?_ | refine WpA.skip ?_ | refine WpA.exit ?_ | refine WpA.cond_true rfl ?_ | refine WpA.cond_false rfl ?_ | refine WpA.cond_ntrue rfl ?_ | refine WpA.cond_dec rfl (fun _ => ?_) (fun _ => ?_) | refine WpA.cond_not rfl (fun _ => ?_) (fun _ => ?_) | refine WpA.cond rfl (fun _ => ?_) (fun _ => ?_)) | (guard_target =~ RunU _ _ _ _ [] _ _ _ _; first | refine RunU.nilL ?_ | refine RunU.nilD (by kernel_rfl) ?_) | (guard_target =~ RunU _ _ _ _ (Oper.mk _ (Op.call ⟨Callee.value _, _, _⟩) _ _ _ none :: _) _ _ _ _; first | refine RunU.cons (sC_ (compared_c _ _) (.sh (.sh .nil)) (.sh wS_ (.sh wS_ .nil)) rfl) ?_) | (guard_target =~ RunU _ _ _ _ (Oper.mk _ _ _ _ _ none :: _) _ _ _ _; refine RunU.cons step_any ?_) | refine Then.next ?_ | refine InBlock.next ?_ | refine Done.ret (.one (by first | exact .c rfl | exact .own rfl | exact .als rfl rfl | exact .ptr rfl rfl | exact .part rfl rfl rfl) .nil) (.sh (.sh .nil)) ?_ rfl)
 rfl
abbrev vZ (x : Int) : AV := .c (.lit (.int .i64 x))
abbrev vNt (x : Nat) : AV := .c (.lit (.int .i64 (x : Int)))
theorem searchR_c (R : List (List Int)) (m : Int) (k : Nat) (hl : R.length ≤ 1000000) (hk : k ≤ R.length) (hr : ∀ i, i < R.length → (R.getD i []).length = 2) (H : ∀ i, i < R.length → ((R.getD i []).getD 0 0 < m ↔ i < k)) :
  CallA Try.prog 57 [aLL R, aI m, .sh (.one (.fn 58 []))] [rI k, rB (decide (k < R.length ∧ (R.getD k []).getD 0 0 = m))] [] := by
 refine cA_ _ Try.func57 rfl Try.ntmps57 (by first | exact ⟨rfl, rfl⟩ | (simp only [List.all_cons, List.all_nil, V.solid, D.solid, D.solids, solids_ints, solids_bools, solids_LL, Bool.and_self, Bool.and_true, and_self]; done) | simp [V.solid, D.solid, D.solids, solids_lits, solids_ints, solids_bools, solids_LL]) ?_
 repeat' (first | (guard_target =~ WpA _ _ _ _ _ _; first | refine WpA.seq ?_ | refine WpA.drawU ?_ | refine WpA.regionU ?_ | refine WpA.block ?_ | refine WpA.ret ?_ | refine WpA.skip ?_ | refine WpA.exit ?_ | refine WpA.cond_true rfl ?_ | refine WpA.cond_false rfl ?_ | refine WpA.cond_ntrue rfl ?_ | refine WpA.cond_dec rfl (fun _ => ?_) (fun _ => ?_) | refine WpA.cond_not rfl (fun _ => ?_) (fun _ => ?_) | refine WpA.cond rfl (fun _ => ?_) (fun _ => ?_)) | (guard_target =~ RunU _ _ _ _ [] _ _ _ _; first | refine RunU.nilL ?_ | refine RunU.nilD (by kernel_rfl) ?_) | (guard_target =~ RunU _ _ _ _ (Oper.mk _ _ _ _ _ none :: _) _ _ _ _; refine RunU.cons step_any ?_) | (guard_target =~ RunU _ _ _ _ (Oper.mk _ _ _ _ _ (some _) :: _) _ _ _ _; first | refine RunU.pass rfl rfl rfl rfl ?_ | refine RunU.pass_undef rfl rfl rfl ?_ | refine RunU.doit rfl rfl step_any ?_ | ((fail_if_success (refine RunU.doit (rd := []) (up := []) rfl rfl ?_ ?_)); first | refine RunU.guard_dec rfl rfl (fun _ => ?_) (fun _ => ?_) | refine RunU.guard_not rfl rfl (fun _ => ?_) (fun _ => ?_) | refine RunU.guard rfl rfl (fun _ => ?_) (fun _ => ?_))) | refine Then.next ?_ | refine InBlock.next ?_ | refine Done.ret (.one (by first | exact .c rfl | exact .own rfl | exact .als rfl rfl | exact .ptr rfl rfl | exact .part rfl rfl rfl) (.one (by first | exact .c rfl | exact .own rfl | exact .als rfl rfl | exact .ptr rfl rfl | exact .part rfl rfl rfl) .nil)) (.sh (.sh (.sh .nil))) ?_ rfl)
 refine WpA.loop_slots (ι := Nat × Nat) (fun p => [(0, .c (.sl false 1 (LLs R))), (1, vZ m), (2, .c (.fn 58 [])), (8, vNt R.length), (9, vNt p.1), (10, vNt p.2)]) (fun p => p.1 ≤ k ∧ k ≤ p.2 ∧ p.2 ≤ R.length) (fun p => p.2 - p.1) (0, R.length) ⟨by simp, hk, by simp⟩ ⟨rfl, rfl, rfl, rfl, rfl, rfl, trivial⟩ ?_
 rintro ⟨i, j⟩ s nx ⟨h1, h2, h3⟩
 simp only at h1 h2 h3
 dsimp only
 by_cases hij : i < j
 ·have hh := half_nat (a := i) (b := j)
  obtain ⟨q, hq⟩ : ∃ q, q = (i + j) / 2 := ⟨_, rfl⟩
  rw [← hq] at hh
  have hqi : i ≤ q ∧ q < j := by omega
  clear hq
  have hrq := hr (q * 1) (by omega)
  have hH := H (q * 1) (by omega)
  have hC := addCmp_c (R.getD (q * 1) []) m (by omega)
  clear H hr
  by_cases hlt : q < k
  ·have e : cmpJ ((R.getD (q * 1) []).getD (0 * 1) 0) m = -1 := by
    have : (R.getD (q * 1) []).getD (0 * 1) 0 < m := hH.2 (by omega)
    rw [cmpJ, if_pos this]
   rw [e] at hC
   clear hH e
   repeat' (first | (guard_target =~ WpA _ _ _ _ _ _; first | refine WpA.seq ?_ | refine WpA.drawU ?_ | refine WpA.regionU ?_ | refine WpA.block ?_ | refine WpA.ret ?_ | refine WpA.skip ?_ | refine WpA.exit ?_ | refine WpA.cond_true rfl ?_ | refine WpA.cond_false rfl ?_ | refine WpA.cond_ntrue rfl ?_ | refine WpA.cond_dec rfl (fun _ => ?_) (fun _ => ?_) | refine WpA.cond_not rfl (fun _ => ?_) (fun _ => ?_) | refine WpA.cond rfl (fun _ => ?_) (fun _ => ?_)) | (guard_target =~ RunU _ _ _ _ [] _ _ _ _; first | refine RunU.nilL ?_ | refine RunU.nilD (by kernel_rfl) ?_) | (guard_target =~ RunU _ _ _ _ (Oper.mk _ (Op.call ⟨Callee.value _, _, _⟩) _ _ _ none :: _) _ _ _ _; first | refine RunU.cons (step_call_clo (hC) xR_ xR_ (.sh (.sh .nil)) (.sh wS_ (.sh wS_ .nil)) rfl) ?_) | (guard_target =~ RunU _ _ _ _ (Oper.mk _ _ _ _ _ none :: _) _ _ _ _; first | refine RunU.cons (step_toU rfl (by omega) rfl) ?_ | refine RunU.cons (step_half rfl rfl hh rfl) ?_) | (guard_target =~ RunU _ _ _ _ (Oper.mk _ _ _ _ _ none :: _) _ _ _ _; refine RunU.cons step_any ?_) | (guard_target =~ RunU _ _ _ _ (Oper.mk _ _ _ _ _ (some _) :: _) _ _ _ _; first | refine RunU.pass rfl rfl rfl rfl ?_ | refine RunU.pass_undef rfl rfl rfl ?_ | (guard_target =~ RunU _ _ _ _ (Oper.mk _ (Op.call ⟨Callee.value _, _, _⟩) _ _ _ _ :: _) _ _ _ _; first | refine RunU.doit rfl rfl (step_call_clo (hC) xR_ xR_ (.sh (.sh .nil)) (.sh wS_ (.sh wS_ .nil)) rfl) ?_) | refine RunU.doit rfl rfl step_any ?_ | ((fail_if_success (refine RunU.doit (rd := []) (up := []) rfl rfl ?_ ?_)); first | refine RunU.guard_dec rfl rfl (fun _ => ?_) (fun _ => ?_) | refine RunU.guard_not rfl rfl (fun _ => ?_) (fun _ => ?_) | refine RunU.guard rfl rfl (fun _ => ?_) (fun _ => ?_))) | refine Then.next ?_ | refine InBlock.next ?_ | refine Done.ret (.one (by first | exact .c rfl | exact .own rfl | exact .als rfl rfl | exact .ptr rfl rfl | exact .part rfl rfl rfl) (.one (by first | exact .c rfl | exact .own rfl | exact .als rfl rfl | exact .ptr rfl rfl | exact .part rfl rfl rfl) .nil)) (.sh (.sh (.sh .nil))) ?_ rfl)
   all_goals try (exfalso; omega)
   exact ⟨(q + 1, j), ⟨by simp only; omega, by simp only; omega, by simp only; omega⟩, ⟨rfl, rfl, rfl, rfl, int_eq (by simp), rfl, trivial⟩, by simp only; omega⟩
  ·have e : 0 ≤ cmpJ ((R.getD (q * 1) []).getD (0 * 1) 0) m := by
    have : ¬ (R.getD (q * 1) []).getD (0 * 1) 0 < m := fun h => hlt (by have := hH.1 h; omega)
    rw [cmpJ, if_neg this]
    split <;> omega
   clear hH
   generalize cmpJ ((R.getD (q * 1) []).getD (0 * 1) 0) m = cc at *
   repeat' (first | (guard_target =~ WpA _ _ _ _ _ _; first | refine WpA.seq ?_ | refine WpA.drawU ?_ | refine WpA.regionU ?_ | refine WpA.block ?_ | refine WpA.ret ?_ | refine WpA.skip ?_ | refine WpA.exit ?_ | refine WpA.cond_true rfl ?_ | refine WpA.cond_false rfl ?_ | refine WpA.cond_ntrue rfl ?_ | refine WpA.cond_dec rfl (fun _ => ?_) (fun _ => ?_) | refine WpA.cond_not rfl (fun _ => ?_) (fun _ => ?_) | refine WpA.cond rfl (fun _ => ?_) (fun _ => ?_)) | (guard_target =~ RunU _ _ _ _ [] _ _ _ _; first | refine RunU.nilL ?_ | refine RunU.nilD (by kernel_rfl) ?_) | (guard_target =~ RunU _ _ _ _ (Oper.mk _ (Op.call ⟨Callee.value _, _, _⟩) _ _ _ none :: _) _ _ _ _; first | refine RunU.cons (step_call_clo (hC) xR_ xR_ (.sh (.sh .nil)) (.sh wS_ (.sh wS_ .nil)) rfl) ?_) | (guard_target =~ RunU _ _ _ _ (Oper.mk _ _ _ _ _ none :: _) _ _ _ _; first | refine RunU.cons (step_toU rfl (by omega) rfl) ?_ | refine RunU.cons (step_half rfl rfl hh rfl) ?_) | (guard_target =~ RunU _ _ _ _ (Oper.mk _ _ _ _ _ none :: _) _ _ _ _; refine RunU.cons step_any ?_) | (guard_target =~ RunU _ _ _ _ (Oper.mk _ _ _ _ _ (some _) :: _) _ _ _ _; first | refine RunU.pass rfl rfl rfl rfl ?_ | refine RunU.pass_undef rfl rfl rfl ?_ | (guard_target =~ RunU _ _ _ _ (Oper.mk _ (Op.call ⟨Callee.value _, _, _⟩) _ _ _ _ :: _) _ _ _ _; first | refine RunU.doit rfl rfl (step_call_clo (hC) xR_ xR_ (.sh (.sh .nil)) (.sh wS_ (.sh wS_ .nil)) rfl) ?_) | refine RunU.doit rfl rfl step_any ?_ | ((fail_if_success (refine RunU.doit (rd := []) (up := []) rfl rfl ?_ ?_)); first | refine RunU.guard_dec rfl rfl (fun _ => ?_) (fun _ => ?_) | refine RunU.guard_not rfl rfl (fun _ => ?_) (fun _ => ?_) | refine RunU.guard rfl rfl (fun _ => ?_) (fun _ => ?_))) | refine Then.next ?_ | refine InBlock.next ?_ | refine Done.ret (.one (by first | exact .c rfl | exact .own rfl | exact .als rfl rfl | exact .ptr rfl rfl | exact .part rfl rfl rfl) (.one (by first | exact .c rfl | exact .own rfl | exact .als rfl rfl | exact .ptr rfl rfl | exact .part rfl rfl rfl) .nil)) (.sh (.sh (.sh .nil))) ?_ rfl)
   all_goals try (exfalso; omega)
   exact ⟨(i, q), ⟨by simp only; omega, by simp only; omega, by simp only; omega⟩, ⟨rfl, rfl, rfl, rfl, rfl, int_eq (by simp), trivial⟩, by simp only; omega⟩
 ·have e1 : i = k := by omega
  have e2 : j = k := by omega
  rw [e1, e2]
  clear h1 h2 h3 hij e1 e2
  by_cases hkl : k < R.length
  ·have hrk := hr (k * 1) (by omega)
   have hHk := H (k * 1) (by omega)
   have hC := addCmp_c (R.getD (k * 1) []) m (by omega)
   rw [Nat.mul_one] at hrk hHk hC
   have hn : ¬ (R.getD k []).getD 0 0 < m := fun h => by have := hHk.1 h; omega
   clear H hr hHk
   by_cases hm : (R.getD k []).getD 0 0 = m
   ·have e : cmpJ ((R.getD k []).getD (0 * 1) 0) m = 0 := by
     have : ¬ m < (R.getD k []).getD (0 * 1) 0 := by rw [Nat.zero_mul, hm]; omega
     rw [cmpJ, if_neg (by simpa using hn), if_neg this]
    rw [e] at hC
    rw [← Nat.mul_one k] at hC
    rw [show (decide (k < R.length ∧ (R.getD k []).getD 0 0 = m)) = true from decide_eq_true ⟨hkl, hm⟩]
    clear hm hn e
    repeat' (first | (guard_target =~ WpA _ _ _ _ _ _; first | refine WpA.seq ?_ | refine WpA.drawU ?_ | refine WpA.regionU ?_ | refine WpA.block ?_ | refine WpA.ret ?_ | refine WpA.skip ?_ | refine WpA.exit ?_ | refine WpA.cond_true rfl ?_ | refine WpA.cond_false rfl ?_ | refine WpA.cond_ntrue rfl ?_ | refine WpA.cond_dec rfl (fun _ => ?_) (fun _ => ?_) | refine WpA.cond_not rfl (fun _ => ?_) (fun _ => ?_) | refine WpA.cond rfl (fun _ => ?_) (fun _ => ?_)) | (guard_target =~ RunU _ _ _ _ [] _ _ _ _; first | refine RunU.nilL ?_ | refine RunU.nilD (by kernel_rfl) ?_) | (guard_target =~ RunU _ _ _ _ (Oper.mk _ (Op.call ⟨Callee.value _, _, _⟩) _ _ _ none :: _) _ _ _ _; first | refine RunU.cons (step_call_clo (hC) xR_ xR_ (.sh (.sh .nil)) (.sh wS_ (.sh wS_ .nil)) rfl) ?_) | (guard_target =~ RunU _ _ _ _ (Oper.mk _ _ _ _ _ none :: _) _ _ _ _; refine RunU.cons step_any ?_) | (guard_target =~ RunU _ _ _ _ (Oper.mk _ _ _ _ _ (some _) :: _) _ _ _ _; first | refine RunU.pass rfl rfl rfl rfl ?_ | refine RunU.pass_undef rfl rfl rfl ?_ | (guard_target =~ RunU _ _ _ _ (Oper.mk _ (Op.call ⟨Callee.value _, _, _⟩) _ _ _ _ :: _) _ _ _ _; first | refine RunU.doit rfl rfl (step_call_clo (hC) xR_ xR_ (.sh (.sh .nil)) (.sh wS_ (.sh wS_ .nil)) rfl) ?_) | refine RunU.doit rfl rfl step_any ?_ | ((fail_if_success (refine RunU.doit (rd := []) (up := []) rfl rfl ?_ ?_)); first | refine RunU.guard_dec rfl rfl (fun _ => ?_) (fun _ => ?_) | refine RunU.guard_not rfl rfl (fun _ => ?_) (fun _ => ?_) | refine RunU.guard rfl rfl (fun _ => ?_) (fun _ => ?_))) | refine Then.next ?_ | refine InBlock.next ?_ | refine Done.ret (.one (by first | exact .c rfl | exact .own rfl | exact .als rfl rfl | exact .ptr rfl rfl | exact .part rfl rfl rfl) (.one (by first | exact .c rfl | exact .own rfl | exact .als rfl rfl | exact .ptr rfl rfl | exact .part rfl rfl rfl) .nil)) (.sh (.sh (.sh .nil))) ?_ rfl)
    all_goals first | rfl | (exfalso; omega) | simp_all
   ·have e : ¬ cmpJ ((R.getD k []).getD (0 * 1) 0) m = 0 := by
     have : m < (R.getD k []).getD (0 * 1) 0 := by rw [Nat.zero_mul]; omega
     rw [cmpJ, if_neg (by simpa using hn), if_pos this]
     omega
    generalize cmpJ ((R.getD k []).getD (0 * 1) 0) m = cc at *
    rw [← Nat.mul_one k] at hC
    rw [show (decide (k < R.length ∧ (R.getD k []).getD 0 0 = m)) = false from decide_eq_false (fun h => hm h.2)]
    clear hm hn
    repeat' (first | (guard_target =~ WpA _ _ _ _ _ _; first | refine WpA.seq ?_ | refine WpA.drawU ?_ | refine WpA.regionU ?_ | refine WpA.block ?_ | refine WpA.ret ?_ | refine WpA.skip ?_ | refine WpA.exit ?_ | refine WpA.cond_true rfl ?_ | refine WpA.cond_false rfl ?_ | refine WpA.cond_ntrue rfl ?_ | refine WpA.cond_dec rfl (fun _ => ?_) (fun _ => ?_) | refine WpA.cond_not rfl (fun _ => ?_) (fun _ => ?_) | refine WpA.cond rfl (fun _ => ?_) (fun _ => ?_)) | (guard_target =~ RunU _ _ _ _ [] _ _ _ _; first | refine RunU.nilL ?_ | refine RunU.nilD (by kernel_rfl) ?_) | (guard_target =~ RunU _ _ _ _ (Oper.mk _ (Op.call ⟨Callee.value _, _, _⟩) _ _ _ none :: _) _ _ _ _; first | refine RunU.cons (step_call_clo (hC) xR_ xR_ (.sh (.sh .nil)) (.sh wS_ (.sh wS_ .nil)) rfl) ?_) | (guard_target =~ RunU _ _ _ _ (Oper.mk _ _ _ _ _ none :: _) _ _ _ _; refine RunU.cons step_any ?_) | (guard_target =~ RunU _ _ _ _ (Oper.mk _ _ _ _ _ (some _) :: _) _ _ _ _; first | refine RunU.pass rfl rfl rfl rfl ?_ | refine RunU.pass_undef rfl rfl rfl ?_ | (guard_target =~ RunU _ _ _ _ (Oper.mk _ (Op.call ⟨Callee.value _, _, _⟩) _ _ _ _ :: _) _ _ _ _; first | refine RunU.doit rfl rfl (step_call_clo (hC) xR_ xR_ (.sh (.sh .nil)) (.sh wS_ (.sh wS_ .nil)) rfl) ?_) | refine RunU.doit rfl rfl step_any ?_ | ((fail_if_success (refine RunU.doit (rd := []) (up := []) rfl rfl ?_ ?_)); first | refine RunU.guard_dec rfl rfl (fun _ => ?_) (fun _ => ?_) | refine RunU.guard_not rfl rfl (fun _ => ?_) (fun _ => ?_) | refine RunU.guard rfl rfl (fun _ => ?_) (fun _ => ?_))) | refine Then.next ?_ | refine InBlock.next ?_ | refine Done.ret (.one (by first | exact .c rfl | exact .own rfl | exact .als rfl rfl | exact .ptr rfl rfl | exact .part rfl rfl rfl) (.one (by first | exact .c rfl | exact .own rfl | exact .als rfl rfl | exact .ptr rfl rfl | exact .part rfl rfl rfl) .nil)) (.sh (.sh (.sh .nil))) ?_ rfl)
    all_goals first | rfl | (exfalso; omega) | simp_all
  ·rw [show (decide (k < R.length ∧ (R.getD k []).getD 0 0 = m)) = false from decide_eq_false (fun h => hkl h.1)]
   clear H hr
   repeat' (first | (guard_target =~ WpA _ _ _ _ _ _; first | refine WpA.seq ?_ | refine WpA.drawU ?_ | refine WpA.regionU ?_ | refine WpA.block ?_ | refine WpA.ret ?_ | refine WpA.skip ?_ | refine WpA.exit ?_ | refine WpA.cond_true rfl ?_ | refine WpA.cond_false rfl ?_ | refine WpA.cond_ntrue rfl ?_ | refine WpA.cond_dec rfl (fun _ => ?_) (fun _ => ?_) | refine WpA.cond_not rfl (fun _ => ?_) (fun _ => ?_) | refine WpA.cond rfl (fun _ => ?_) (fun _ => ?_)) | (guard_target =~ RunU _ _ _ _ [] _ _ _ _; first | refine RunU.nilL ?_ | refine RunU.nilD (by kernel_rfl) ?_) | (guard_target =~ RunU _ _ _ _ (Oper.mk _ _ _ _ _ none :: _) _ _ _ _; refine RunU.cons step_any ?_) | (guard_target =~ RunU _ _ _ _ (Oper.mk _ _ _ _ _ (some _) :: _) _ _ _ _; first | refine RunU.pass rfl rfl rfl rfl ?_ | refine RunU.pass_undef rfl rfl rfl ?_ | refine RunU.doit rfl rfl step_any ?_ | ((fail_if_success (refine RunU.doit (rd := []) (up := []) rfl rfl ?_ ?_)); first | refine RunU.guard_dec rfl rfl (fun _ => ?_) (fun _ => ?_) | refine RunU.guard_not rfl rfl (fun _ => ?_) (fun _ => ?_) | refine RunU.guard rfl rfl (fun _ => ?_) (fun _ => ?_))) | refine Then.next ?_ | refine InBlock.next ?_ | refine Done.ret (.one (by first | exact .c rfl | exact .own rfl | exact .als rfl rfl | exact .ptr rfl rfl | exact .part rfl rfl rfl) (.one (by first | exact .c rfl | exact .own rfl | exact .als rfl rfl | exact .ptr rfl rfl | exact .part rfl rfl rfl) .nil)) (.sh (.sh (.sh .nil))) ?_ rfl)
   all_goals first | rfl | (exfalso; omega) | simp_all
end Go.Proofs.Ytohhkbbjdjibgaa
namespace Go.Proofs.Ytohhkbbjdjibgaa
set_option maxRecDepth 100000
set_option maxHeartbeats 20000000
open Go.Pv
open Go.ChangeShapes Go.WideShapes Go.ChangeAt Go.RowKit
attribute [local irreducible] RunU WpA Step CallG CallNG Done DoneN
abbrev dCt (R : List (List Int)) : D := .pt true [.sl true 1 (LL R)]
theorem put_ct {R : List (List Int)} {i : Nat} {m : List Int} (h : i < R.length) : (dCt R).put [0, i] (.sl true 1 (ints m)) = dCt (R.set i m) := by
 simp only [D.put, D.kids, LL, D.withKids, List.getElem?_cons_zero, List.set_cons_zero, LL_get h, List.map_set, dCt]
theorem nav_ct {R : List (List Int)} {i : Nat} (h : i < R.length) : (dCt R).nav [0, i] = some (.sl true 1 (ints (R.getD i []))) := by
 simp only [D.nav, D.kids, List.getElem?_cons_zero, LL, LL_get h]
theorem add_c (R : List (List Int)) (m e b : Int) (hl : R.length ≤ 900000) (ha : AscR R) (hr : RowsR R b) (hb : 0 ≤ b ∧ b ≤ 4611686018427387904) (he : -4611686018427387904 ≤ e ∧ e ≤ 4611686018427387903) :
  CallA Try.prog 41 [.io (dCt R), aI m, aI e] [] [dCt (putR R m e)] := by
 have hk := atR_le m R
 have hS := searchR_c R m (atR m R) (by omega) hk (fun i hi => (hr.at hi).1) (fun i hi => atR_iff ha hi)
 by_cases hin : atR m R < R.length ∧ (R.getD (atR m R) []).getD 0 0 = m
 ·rw [decide_eq_true hin] at hS
  rw [putR_has m e R hin.1 hin.2]
  have hrow := hr.at hin.1
  clear ha hr
  generalize atR m R = k at *
  obtain ⟨hin, _⟩ := hin
  have h1 : (R.getD (k * 1) []).length = 2 := by simpa using hrow.1
  have h2 : -b ≤ (R.getD (k * 1) []).getD (1 * 1) 0 ∧ (R.getD (k * 1) []).getD (1 * 1) 0 ≤ b := by simpa using hrow.2
  clear hrow
  refine cA_ _ Try.func41 rfl Try.ntmps41 (by first | exact ⟨rfl, rfl⟩ | (simp only [List.all_cons, List.all_nil, V.solid, D.solid, D.solids, solids_ints, solids_bools, solids_LL, Bool.and_self, Bool.and_true, and_self]; done) | simp [V.solid, D.solid, D.solids, solids_lits, solids_ints, solids_bools, solids_LL]) ?_
  repeat' (first | (guard_target =~ WpA _ _ _ _ _ _; first | refine WpA.seq ?_ | refine WpA.drawU ?_ | refine WpA.regionU ?_ | refine WpA.block ?_ | refine WpA.ret ?_ | refine WpA.skip ?_ | refine WpA.exit ?_ | refine WpA.cond_true rfl ?_ | refine WpA.cond_false rfl ?_ | refine WpA.cond_ntrue rfl ?_ | refine WpA.cond_dec rfl (fun _ => ?_) (fun _ => ?_) | refine WpA.cond_not rfl (fun _ => ?_) (fun _ => ?_) | refine WpA.cond rfl (fun _ => ?_) (fun _ => ?_)) | (guard_target =~ RunU _ _ _ _ [] _ _ _ _; first | refine RunU.nilL ?_ | refine RunU.nilD (by kernel_rfl) ?_) | (guard_target =~ RunU _ _ _ _ (Oper.mk _ (Op.call ⟨Callee.value _, _, _⟩) _ _ _ none :: _) _ _ _ _; first | refine RunU.cons (sC_ (hS) (.sh (.sh (.sh .nil))) (.sh wS_ (.sh wS_ (.sh wS_ .nil))) rfl) ?_) | (guard_target =~ RunU _ _ _ _ (Oper.mk _ _ _ _ _ none :: _) _ _ _ _; first | refine RunU.cons (step_index_als rfl rfl (nav_ct (by omega)) rfl (by with_reducible exact idx_lit _) (by omega) rfl) ?_ | refine RunU.cons (step_load rfl rfl (nav_ct (by omega)) rfl (ints_get (by omega)) rfl) ?_ | refine RunU.cons (step_store_ints rfl rfl (nav_ct (by omega)) rfl rfl (by omega)) ?_) | (guard_target =~ RunU _ _ _ _ (Oper.mk _ _ _ _ _ none :: _) _ _ _ _; refine RunU.cons step_any ?_) | refine Then.next ?_ | refine InBlock.next ?_ | refine Done.ret .nil (.io rfl (.sh (.sh .nil))) ?_ rfl | refine Done.normal .nil (.io rfl (.sh (.sh .nil))) ?_ rfl | refine Done.ret .nil (.io rfl (.sh (.sh .nil))) ?_ ?_ | refine Done.normal .nil (.io rfl (.sh (.sh .nil))) ?_ ?_)
  ·rfl
  ·have := put_ct (R := R) (i := k * 1) (m := (R.getD (k * 1) []).set (1 * 1) ((R.getD (k * 1) []).getD (1 * 1) 0 + e)) (by omega)
   rw [Nat.mul_one, Nat.mul_one] at this
   rw [← this]
   simp [D.withKids]
 ·rw [decide_eq_false hin] at hS
  rw [putR_new m e R (fun h => by simpa [h] using hin)]
  have hI := insert_c R (atR m R) [m, 0] hk (by omega)
  clear ha hr hin
  generalize atR m R = k at *
  have hlen : (R.take k ++ [m, 0] :: R.drop k).length = R.length + 1 := by simp; omega
  have hget : (R.take k ++ [m, 0] :: R.drop k).getD (k * 1) [] = [m, 0] := by
   rw [Nat.mul_one, List.getD_eq_getElem?_getD, List.getElem?_append_right (by simp; omega), List.length_take, Nat.min_eq_left hk, Nat.sub_self]
   rfl
  have hset : (R.take k ++ [m, 0] :: R.drop k).set k [m, 0 + e] = R.take k ++ [m, e] :: R.drop k := by
   rw [List.set_append_right _ _ (by simp; omega), List.length_take, Nat.min_eq_left hk, Nat.sub_self, List.set_cons_zero, Int.zero_add]
  generalize hR2 : R.take k ++ [m, 0] :: R.drop k = R2 at *
  have h1 : (R2.getD (k * 1) []).length = 2 := by rw [hget]; rfl
  have h2 : (R2.getD (k * 1) []).getD (1 * 1) 0 = 0 := by rw [hget]; rfl
  refine cA_ _ Try.func41 rfl Try.ntmps41 (by first | exact ⟨rfl, rfl⟩ | (simp only [List.all_cons, List.all_nil, V.solid, D.solid, D.solids, solids_ints, solids_bools, solids_LL, Bool.and_self, Bool.and_true, and_self]; done) | simp [V.solid, D.solid, D.solids, solids_lits, solids_ints, solids_bools, solids_LL]) ?_
  repeat' (first | (guard_target =~ WpA _ _ _ _ _ _; first | refine WpA.seq ?_ | refine WpA.drawU ?_ | refine WpA.regionU ?_ | refine WpA.block ?_ | refine WpA.ret ?_ | refine WpA.skip ?_ | refine WpA.exit ?_ | refine WpA.cond_true rfl ?_ | refine WpA.cond_false rfl ?_ | refine WpA.cond_ntrue rfl ?_ | refine WpA.cond_dec rfl (fun _ => ?_) (fun _ => ?_) | refine WpA.cond_not rfl (fun _ => ?_) (fun _ => ?_) | refine WpA.cond rfl (fun _ => ?_) (fun _ => ?_)) | (guard_target =~ RunU _ _ _ _ [] _ _ _ _; first | refine RunU.nilL ?_ | refine RunU.nilD (by kernel_rfl) ?_) | (guard_target =~ RunU _ _ _ _ (Oper.mk _ (Op.call ⟨Callee.value _, _, _⟩) _ _ _ none :: _) _ _ _ _; first | refine RunU.cons (sC_ (hS) (.sh (.sh (.sh .nil))) (.sh wS_ (.sh wS_ (.sh wS_ .nil))) rfl) ?_ | refine RunU.cons (sC_ (hI) (.mv vA_ (.sh (.mv vA_ .nil))) (.mv (.sh wS_ (.mv .nil))) rfl) ?_) | (guard_target =~ RunU _ _ _ _ (Oper.mk _ _ _ _ _ none :: _) _ _ _ _; first | refine RunU.cons (step_index_als rfl rfl (nav_ct (by omega)) rfl (by with_reducible exact idx_lit _) (by omega) rfl) ?_ | refine RunU.cons (step_load rfl rfl (nav_ct (by omega)) rfl (ints_get (by omega)) rfl) ?_ | refine RunU.cons (step_store_ints rfl rfl (nav_ct (by omega)) rfl rfl (by omega)) ?_) | (guard_target =~ RunU _ _ _ _ (Oper.mk _ _ _ _ _ none :: _) _ _ _ _; refine RunU.cons step_any ?_) | refine Then.next ?_ | refine InBlock.next ?_ | refine Done.ret .nil (.io rfl (.sh (.sh .nil))) ?_ rfl | refine Done.normal .nil (.io rfl (.sh (.sh .nil))) ?_ rfl | refine Done.ret .nil (.io rfl (.sh (.sh .nil))) ?_ ?_ | refine Done.normal .nil (.io rfl (.sh (.sh .nil))) ?_ ?_)
  ·rfl
  ·show [(dCt R2).put [0, k * 1] (.sl true 1 (ints ((R2.getD (k * 1) []).set (1 * 1) ((R2.getD (k * 1) []).getD (1 * 1) 0 + e))))] = _
   rw [put_ct (by omega), h2, hget, ← hset, Nat.mul_one]
   rfl
end Go.Proofs.Ytohhkbbjdjibgaa
namespace Go.Pv
open Go.RowKit
def CallX (P : Program) (K : FuncId) (real : List Value → List Value) (args : List Arg) (outs : List D) : Prop :=
 ∀ (w : World) (vs : List Value) (M : List Nat) (F : Nat → Prop), (∀ g, F g → g < w.heap.size ∧ g ∉ M) → ArgsR F w args vs M → M.Nodup → (∀ g ∈ M, g < w.heap.size) →
  Calls P K (real vs).toArray w fun e w' => ∃ us Lr Lo, e = .returned (retVal us) ∧ Keep w M w' ∧ VRs (Res true F) w' [] us Lr ∧ OutsR (Res true F) w' args vs outs Lo ∧ (Lr ++ Lo).Nodup ∧
   ∀ g ∈ Lr ++ Lo, g < w'.heap.size ∧ (g ∈ M ∨ w.heap.size ≤ g)
section
variable {P : Program} {n : NN} {nid : Nat} {st : Nat → AV} {f : Fr} {X : Nat → Prop} {a : Act} {w : World} {ρ : Nat → Rho} {L : Nat → List Nat} {M : List Nat}
def Real (st : Nat → AV) (xs : List Operand) (real : List Value → List Value) (ys : List Operand) (rd : List Nat) : Prop :=
 ∀ {f : Fr} {X : Nat → Prop} {st' : Nat → AV} {a : Act} {w : World} {ρ : Nat → Rho} {L : Nat → List Nat}, RepO f X st' a w ρ L → (∀ s ∈ rd, st' s = st s) → xs.map a.eval = real (ys.map a.eval)
theorem step_call_virt {d0 : Nat} {K : FuncId} {x : Operand} {xs : List Operand} {xs0 : Array Operand} {ts : Array TypeId} {args : List Arg} {real : List Value → List Value} {d d' dd : D} {xr id : Nat} {path rd rd1 rd2 rd3 : List Nat} {up : List (Nat × AV)} {ty pos aft g} [FnOk P K]
  (hc : CallX P K real (.io d :: args) [d']) (hreal : Real st xs0.toList real (x :: xs) rd3) (hi : IoAt st x xr id path dd d rd) (hm : Moves (put st xr (.own id (dd.put path .hole))) xs args rd1 up) (hr : Reads (puts (put st xr (.own id (dd.put path .hole))) up) xs args rd2)
  (hx : puts (put st xr (.own id (dd.put path .hole))) up xr = .own id (dd.put path .hole)) (hne : (d0 == xr) = false) (hd : n d0 = true) :
  Step P n ⟨some d0, .call ⟨.value (.func K), xs0, ts⟩, ty, pos, aft, g⟩ nid st (rd3 ++ (rd ++ (rd1 ++ rd2))) ((xr, .own id (dd.put path .hole)) :: (up ++ [(d0, .dead), (xr, .own nid (dd.put path d'))])) := by
 intro X st' hs hX f a w hn hrep Kk Q hK
 obtain ⟨ρ, L, h⟩ := hrep
 subst hn
 have hfn := hreal h fun s hs' => hs s (List.mem_append_left _ hs')
 have hne : d0 ≠ xr := by simpa using hne
 have hi' := hi.agree (st' := st') fun s hs' => hs s (List.mem_append_right _ (List.mem_append_left _ hs'))
 have ag : ∀ s, st' s = st s → put st' xr (.own id (dd.put path .hole)) s = put st xr (.own id (dd.put path .hole)) s := fun s e => by unfold put; split <;> simp_all
 have hm' := hm.agree (st' := put st' xr (.own id (dd.put path .hole))) fun s hs' => ag s (hs s (by simp [hs']))
 obtain ⟨r0, L0, M0, h0, hv0⟩ := h.toM.lend hi'
 obtain ⟨L', M1, h1, h2⟩ := h0.moves hm'
 simp only [puts] at hK
 rw [puts_append] at hK
 rw [List.nil_append] at h1
 have hr' := hr.agree (st' := puts (put st' xr (.own id (dd.put path .hole))) up) fun s hs' => puts_agree _ _ (ag s (hs s (by simp [hs'])))
 have h3 := args_of (rd := []) h1 h2 hr'
 have hx' : puts (put st' xr (.own id (dd.put path .hole))) up xr = .own id (dd.put path .hole) := by
  exact (puts_agree up xr (by simp [put])).trans hx
 refine wp_of_enter (run_call a.eval rfl w) ?_
 have e : xs0.map a.eval = (real (a.eval x :: xs.map a.eval)).toArray := by
  have hfn : xs0.toList.map a.eval = real (a.eval x :: xs.map a.eval) := hfn
  rw [← hfn]; apply Array.ext'; simp
 rw [e]
 have hargs : ArgsR (Free w (M0 ++ M1)) w (.io d :: args) (a.eval x :: xs.map a.eval) (M0 ++ M1) := by
  simp only [ArgsR]
  exact ⟨_, _, M0, M1, rfl, rfl, ⟨r0, RD.same (fun _ hg => h1.free hg) (fun _ _ => rfl) d r0 _ M0 hv0 (fun _ _ => rfl)⟩, h3⟩
 refine (hc w _ (M0 ++ M1) (Free w (M0 ++ M1)) (fun _ h => h) hargs h1.nd (fun g hg => (h1.bound g hg).1)).mono ?_
 rintro e w' ⟨us, Lr, Lo, rfl, hk, hv, ho, hnd, hL⟩
 obtain ⟨rfl, rfl, hone⟩ := lits_res [] us Lr hv
 rw [List.nil_append] at hnd hL
 have hout : ∃ r, RD (Res true (Free w (M0 ++ M1))) w' d' r (a.eval x) Lo := by
  simp only [OutsR] at ho
  obtain ⟨u, us', d1, ds', r, La, Lb, e1, e2, rfl, k1, k2⟩ := ho
  obtain ⟨rfl, rfl⟩ := List.cons.inj e1
  obtain ⟨rfl, rfl⟩ := List.cons.inj e2
  have hLb : Lb = [] := outs_nil h2 _ _ k2
  subst hLb
  exact ⟨r, by simpa using k1⟩
 obtain ⟨r, hout⟩ := hout
 refine ⟨_, rfl, ?_⟩
 have hxs := h1.rep.slots xr
 rw [hx'] at hxs
 simp only [SR] at hxs
 have hnav := nav_put path dd d .hole hi.own.2.1
 obtain ⟨v1, A, L1, B, eL, h5, hset⟩ := RD.focus path _ _ _ _ hxs .hole hnav
 simp only [RD] at h5
 obtain ⟨hv1, _, rfl⟩ := h5
 have hev : a.eval x = v1 := by rw [hv1, Rho.sub_nil]; exact hi'.eval h
 rw [hev] at hout
 have hFs : ∀ g, f.F g → Same w w' g := fun g hg => hk.block g (h1.rep.F_lt hg) (fun hm => (h1.bound g hm).2 hg)
 have hLx : ∀ t, ∀ g ∈ L' t, Same w w' g := fun t g hg => hk.block g (h1.rep.bound t g hg).1 (h1.disj t g hg)
 have hfin := hset w' d' r Lo hFs (fun g hg => hLx xr g (by rw [eL]; rcases hg with hg | hg <;> simp [hg])) (RD.same (fun g hg => by cases hg.1) (fun g hg => by cases hg.1) d' r _ Lo hout (fun _ _ => rfl))
 rw [put_put path dd d .hole d' hi.own.2.1] at hfin
 refine hK _ _ ⟨fun i => if i = nid then (ρ id).set path r else ρ i, fun s => if s = xr then A ++ (Lo ++ B) else if s = d0 then [] else L' s, ?_⟩
 have hL0 : ∀ g ∈ Lo, g ∉ L' xr := fun g hg hg' => by
  rcases (hL g hg).2 with h | h
  ·exact h1.disj xr g hg' h
  ·have := (h1.rep.bound xr g hg').1; omega
 have hndx := h1.rep.nodup xr
 rw [eL] at hndx
 have hst : ∀ s, s ≠ xr → s ≠ d0 → puts (puts (put st' xr (.own id (dd.put path .hole))) up) [(d0, litAV []), (xr, .own nid (dd.put path d'))] s = puts (put st' xr (.own id (dd.put path .hole))) up s := fun s h1 h2 => by
  simp only [puts]; rw [put_other _ _ _ _ h1, put_other _ _ _ _ h2]
 refine h1.step (fun s => s = xr ∨ s = d0) (M0 ++ M1) _ _ _ w' _ _ (put_defers _ _ _) (put_size _ _ _) (hold_put _ hd) hk (fun g hg => .inr hg) (fun i hi => by rw [if_neg (by rintro rfl; exact hX hi)]) (fun s hs' => ?_) (fun s hs' => ?_) (fun s u hs' hu hsu g hg hgu => ?_) (fun _ h => .inl h) (fun s hs' i hi => ?_)
 ·simp only [not_or] at hs'
  exact ⟨hst s hs'.1 hs'.2, tmp_put_other _ _ _ _ hs'.2, by simp [hs'.1, hs'.2]⟩
 ·by_cases hsx : s = xr
  ·subst hsx
   rw [if_pos rfl, tmp_put_other _ _ _ _ (Ne.symm hne)]
   simp only [puts, put_same, SR, if_true]
   refine ⟨hfin, ?_, fun g hg => ?_⟩
   ·have hd2 : ∀ g ∈ Lo, g ∉ A ∧ g ∉ B := fun g hg => by
     have := hL0 g hg
     rw [eL] at this
     simp only [List.mem_append, not_or] at this
     exact ⟨this.1, this.2.2⟩
    simp only [List.nodup_append, List.mem_append] at hndx ⊢
    grind
   ·simp only [List.mem_append] at hg
    rcases hg with hg | hg | hg
    ·have : g ∈ L' s := by rw [eL]; simp [hg]
     exact ⟨Nat.lt_of_lt_of_le (h1.rep.bound s g this).1 hk.size, .inl ⟨s, .inl rfl, this⟩⟩
    ·exact ⟨(hL g hg).1, .inr (hL g hg).2⟩
    ·have : g ∈ L' s := by rw [eL]; simp [hg]
     exact ⟨Nat.lt_of_lt_of_le (h1.rep.bound s g this).1 hk.size, .inl ⟨s, .inl rfl, this⟩⟩
  ·have hs0 : s = d0 := hs'.resolve_left hsx
   subst hs0
   rw [if_neg hsx, if_pos rfl, tmp_put_same _ _ _ (h1.rep.size _ hd)]
   simp only [puts]
   rw [put_other _ _ _ _ hsx, put_same]
   exact ⟨SR_litAV [] hone, List.nodup_nil, fun g hg => by simp at hg⟩
 ·by_cases hsx : s = xr
  ·have hu0 : u ≠ xr := fun e => hsu (hsx.trans e.symm)
   have hu' : u = d0 := hu.resolve_left hu0
   rw [if_neg hu0, if_pos hu'] at hgu
   simp at hgu
  ·have hs0 : s = d0 := hs'.resolve_left hsx
   rw [if_neg hsx, if_pos hs0] at hg
   simp at hg
 ·by_cases hsx : s = xr
  ·subst hsx
   simp only [puts, put_same, AV.ids, List.mem_singleton] at hi
   exact .inr hi
  ·have hs0 : s = d0 := hs'.resolve_left hsx
   subst hs0
   simp only [puts] at hi
   rw [put_other _ _ _ _ hsx, put_same] at hi
   simp [AV.ids] at hi
abbrev clo2 (K : FuncId) : List Value → List Value
 | [vC, vm, vL] => [vm, .func (.func K) #[] #[vC, vL]]
 | _ => []
theorem own_eval (h : RepO f X st a w ρ L) {t id : Nat} {cs : List D} (ht : st t = .own id (.pt true cs)) : ∃ b, tmp a t = .pointer (some b) ∧ tmp a t = ρ id [] ∧ b = ⟨b.block, 0, none⟩ := by
 have h1 := h.slots t
 rw [ht] at h1
 simp only [SR, RD] at h1
 obtain ⟨e, g, us, L1, ety, e2, _⟩ := h1
 exact ⟨_, e2, e, rfl⟩
theorem real_clo2 {K : FuncId} {tm tf tc tl idc idl : Nat} {cc cl : List D} (hf : st tf = .clo K [.ptr tc idc [] 0, .ptr tl idl [] 0]) (hc : st tc = .own idc (.pt true cc)) (hl : st tl = .own idl (.pt true cl)) :
  Real st [.tmp tm, .tmp tf] (clo2 K) [.tmp tc, .tmp tm, .tmp tl] [tf, tc, tl] := by
 intro f X st' a w ρ L h hs
 have h1 := h.slots tf
 rw [(hs tf (by simp)).trans hf] at h1
 obtain ⟨b1, e1, k1, z1⟩ := own_eval h ((hs tc (by simp)).trans hc)
 obtain ⟨b2, e2, k2, z2⟩ := own_eval h ((hs tl (by simp)).trans hl)
 simp only [SR, SRs] at h1
 obtain ⟨vs, e0, u, us, L1, L2, rfl, eL, ⟨eL1, b, hb, q1⟩, u', us', L1', L2', rfl, eL', ⟨eL1', b', hb', q2⟩, rfl, _⟩ := h1
 rw [← k1, e1] at hb
 rw [← k2, e2] at hb'
 simp only [baseOf, Option.some.injEq] at hb hb'
 subst hb hb'
 rw [add_zero'] at q1 q2
 show [tmp a tm, tmp a tf] = [tmp a tm, .func (.func K) #[] #[tmp a tc, tmp a tl]]
 rw [e0, q1, q2, e1, e2]
end
end Go.Pv
