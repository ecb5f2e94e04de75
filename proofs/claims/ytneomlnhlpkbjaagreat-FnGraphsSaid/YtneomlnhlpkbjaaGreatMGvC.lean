/- Edges sorted by the program; slices.Delete; copies of graphs. No condition. -/
import Derived.Test.YtneomlnhlpkbjaaGreatMGvB
import Derived.Test.YtneomlnhlpkbjaaGreatMPwI
import Derived.Test.YtneomlnhlpkbjaaGreatMPwE
import Derived.Test.YtneomlnhlpkbjaaGreatMCvB
set_option linter.unusedVariables false
set_option linter.unusedSimpArgs false
namespace Go.Proofs.YtneomlnhlpkbjaaGreat
set_option maxHeartbeats 20000000
open Go.Pv
open Go.ChangeShapes Go.WideShapes Go.ChangeAt Go.RowKit
attribute [local irreducible] RunU WpA Step CallG CallNG Done DoneN
open Go.Sort Go.Lib
instance fnOk162 : FnOk Tryz.prog 162 := ⟨_, Tryz.func162, rfl, by decide⟩
instance fnOk163 : FnOk Tryz.prog 163 := ⟨_, Tryz.func163, rfl, by decide⟩
instance fnOk99 : FnOk Tryz.prog 99 := ⟨_, Tryz.func99, rfl, by decide⟩
instance fnOk156 : FnOk Tryz.prog 156 := ⟨_, Tryz.func156, rfl, by decide⟩
instance fnOk94 : FnOk Tryz.prog 94 := ⟨_, Tryz.func94, rfl, by decide⟩
theorem cmpEd_c (a b : List Int) (ha : a.length ≤ 1000000000) (hb : b.length ≤ 1000000000) : CallA Tryz.prog 163 [aL a, aL b] [rI (lexC a b)] [] := by
  have h := compare_c a b ha hb
  generalize lexC a b = q at *
  refine callA_of _ Tryz.func163 rfl Tryz.ntmps163 solid_any ?_
  repeat' (first | refine Two.mk (fun _ => ?_) (fun _ => ?_) | (guard_target =~ CallN_; first | refine RunU.cons (step_call (h) (.sh (.sh .nil)) (.sh shows_any (.sh shows_any .nil)) rfl) ?_) | refine goA ?_ | (refine neA ?_; first | refine nxA ?_ | refine Done.ret (.one res_any .nil) (.sh (.sh .nil)) ?_ rfl) | fail)
  all_goals rfl
theorem pr2_len {e : List Int} (h : Pr2 e) : e.length = 2 := by obtain ⟨a, b, rfl⟩ := h; rfl
theorem lexC_neg {e f : List Int} (he : Pr2 e) (hf : Pr2 f) : lexC e f < 0 ↔ 0 < lexC f e := by
  obtain ⟨a, b, rfl⟩ := he; obtain ⟨c, d, rfl⟩ := hf
  simp only [lexC]
  by_cases h1 : a < c
  · simp [h1, show ¬ c < a by omega]
  · by_cases h2 : c < a
    · simp [h1, h2]
    · by_cases h3 : b < d
      · simp [h1, h2, h3, show ¬ d < b by omega]
      · by_cases h4 : d < b
        · simp [h1, h2, h3, h4]
        · simp [h1, h2, h3, h4]
theorem swoEd {α : Type} (key : α → List Int) (hk : ∀ q, Pr2 (key q)) : SWO (Go.Proofs.ltOf fun x y : α => lexC (key x) (key y)) where
  irrefl x := by
    have := ltE_irr (hk x)
    simp only [Go.Proofs.ltOf, decide_eq_false_iff_not]
    exact this
  trans x y z h1 h2 := by
    simp only [Go.Proofs.ltOf, decide_eq_true_eq] at *
    exact ltE_trans (hk x) (hk y) (hk z) h1 h2
  ntrans x y z h1 h2 := by
    simp only [Go.Proofs.ltOf, decide_eq_false_iff_not] at *
    intro h3
    by_cases e : key x = key y
    · rw [e] at h3; exact h2 h3
    · have h4 := ltE_total (hk x) (hk y) h1 e
      exact h2 (ltE_trans (hk y) (hk x) (hk z) h4 h3)
theorem row_arg {F : Nat → Prop} {w : World} {u : Value} {r : List Int} (h : ShRow F w u 1 (iv r)) : ArgR F w (.sh (.one (.sl false 1 (ints r)))) u [] := by
  simp only [ArgR, VR]
  refine ⟨trivial, fun _ => undef, ?_⟩
  simp only [RD]
  exact ⟨trivial, iv r, h, (rds_ints r _ _ _ _).2 ⟨rfl, rfl⟩⟩
theorem keep_sortW1 {w : World} {g : Nat} {ety : TypeId} {cur : Array Value} {α : Type} [Inhabited α] {enc : α → Value} {m o : Nat} {dk : Array α} {os : Array Obj} (hg : g < w.heap.size) : Keep w [g] (sortWorld enc w g o m dk os) := by
  refine ⟨rfl, rfl, rfl, ?_, fun b hb hbM => ?_, ?_⟩
  · simp [sortWorld, grow, putRow, mapBlock, Go.Sort.ahead]
  · unfold Same sortWorld
    rw [heap_grow_old _ _ (by simpa [putRow, mapBlock, Go.Sort.ahead] using hb)]
    have : g ≠ b := by rintro rfl; exact hbM (by simp)
    simp [putRow, mapBlock, Go.Sort.ahead, Array.getElem?_modify, this]
  · simp [sortWorld, grow, putRow, mapBlock, Go.Sort.ahead]
set_option maxRecDepth 100000 in
theorem sortEd_c (R T : List (List Int)) (hl : R.length ≤ 1000000000) (hT : ∀ r ∈ R, Pr2 r) (hTR : T.Perm R) (hTs : T.Pairwise fun a b => 0 ≤ lexC b a) :
    CallA Tryz.prog 162 [.io (.sl true 1 (LL R)), .sh (.one (.fn 163 []))] [] [.sl true 1 (LL T)] := by
  unfold CallA CallG
  intro w vs M F hF hargs hnd hM
  simp only [ArgsR, ArgR, VR, RD, RDs] at hargs
  obtain ⟨v, us0, L1, L2, rfl, rfl, ⟨r1, ev, us, L0, Lp, rfl, hrow, hrds⟩, fv, us1, L3, L4, rfl, rfl, ⟨rfl, r2, _, usc, rfl, rfl, _⟩, rfl, rfl⟩ := hargs
  simp only [List.append_nil] at hnd hM hF
  obtain ⟨τ, e1, rfl, hpool⟩ := rds_pool R _ _ _ _ hrds
  obtain ⟨A, rfl⟩ := pool_rvs hpool
  have hA1 : (A.map RV.pr).map Prod.fst = A.map RV.v := by rw [List.map_map]; rfl
  have hA2 : rowsOf A = R := by rw [← e1, List.map_map]; rfl
  rw [hA1] at hrow
  have hlen : A.length = R.length := by rw [← hA2]; simp [rowsOf]
  by_cases hA : A = []
  · subst hA
    have hR : R = [] := by rw [← hA2]; rfl
    subst hR
    have hT0 : T = [] := List.perm_nil.1 hTR
    subst hT0
    have hv : ∃ p c, v = .slice p 0 c := by
      rcases hrow with ⟨e, _, _⟩ | ⟨gb, o, n, cap, cur, ety, e, h2, h3, _⟩
      · exact ⟨_, _, e⟩
      · have : n = 0 := by simpa using h3
        subst this
        exact ⟨_, _, e⟩
    obtain ⟨p, c, hv⟩ := hv
    have hc := AnyF.slices_SortFunc_none sortEd0 p c (.func (.func 163) #[] #[]) w
    rw [hv]
    refine hc.mono ?_
    rintro e w' ⟨rfl, rfl⟩
    refine ⟨[], [], L0 ++ Lp, rfl, ⟨rfl, rfl, rfl, Nat.le_refl _, fun _ _ _ => rfl, Nat.le_refl _⟩, by simp [VRs], ?_, by simpa using hnd, fun g hg => ⟨hM g (by simpa using hg), .inl (by simpa using hg)⟩⟩
    simp only [OutsR]
    refine ⟨_, _, _, [], r1, L0 ++ Lp, [], rfl, rfl, by simp, ?_, _, _, rfl, rfl, rfl⟩
    simp only [RD]
    cases hpool
    refine ⟨by rw [← hv]; exact ev, [], L0, [], rfl, by rw [← hv]; exact hrow, by simp [RDs]⟩
  · have hpos : 0 < A.length := by
      rcases Nat.eq_zero_or_pos A.length with h | h
      · exact absurd (List.eq_nil_of_length_eq_zero h) hA
      · exact h
    rcases hrow with ⟨_, e0, _⟩ | ⟨gb, o, n, cap, cur, ety, rfl, h2, h3, h4, h5, h6, h7, rfl⟩
    · exact absurd (by simpa using e0) hA
    have hn : n = A.length := by rw [List.length_map] at h3; omega
    subst hn
    have hgb : gb < w.heap.size := hM gb (by simp)
    have hgp : gb ∉ Lp := fun h => by simp only [List.singleton_append, List.nodup_cons] at hnd; exact hnd.1 h
    have hpl : ∀ g ∈ Lp, g < w.heap.size := fun g hg => hM g (by simp [hg])
    have hndp : Lp.Nodup := by simp only [List.singleton_append, List.nodup_cons] at hnd; exact hnd.2
    let inst : Inhabited { q : RV // q ∈ A } := ⟨⟨A[0], List.getElem_mem hpos⟩⟩
    let d : Array { q : RV // q ∈ A } := A.attach.toArray
    have hds : d.size = A.length := by simp [d]
    let enc : { q : RV // q ∈ A } → Value := fun q => q.1.v
    have hfl : d.toList.map enc = A.map RV.v := by
      simp only [d, enc]
      rw [← List.attach_map_subtype_val A]
      simp [List.map_map]
    have hcurA : ∀ j, j < A.length → cur[o + j]? = (A.map RV.v)[j]? := fun j hj => by
      rw [← h7, List.getElem?_take_of_lt (by omega), List.getElem?_drop]; simp
    have hH : Holds enc w gb o d := by
      intro j hj
      rw [hds] at hj
      constructor
      · rw [cell_of_row w gb (o + j) cur ety (0, 0) h2, hcurA j hj, ← hfl, List.getElem?_map]
        simp [hj, hds]
      · simp [World.frozen?, h2]
    have hcmp : CmpLays1 Tryz.prog 163 #[] enc (fun x y => lexC x.1.r y.1.r) gb o d.size w := by
      intro m os dk hdk x y
      have hk : Keep w [gb] (sortWorld enc w gb o m dk os) := keep_sortW1 (ety := ety) (cur := cur) hgb
      generalize sortWorld enc w gb o m dk os = W at *
      have hpW : Pool W (A.map RV.pr) Lp := hpool.same fun g hg => hk.block g (hpl g hg) (by simp only [List.mem_singleton]; rintro rfl; exact hgp hg)
      have hsh := hpW.sh (fun g hg => Nat.lt_of_lt_of_le (hpl g hg) hk.size)
      have hx := hsh x.1.pr (List.mem_map.2 ⟨x.1, x.2, rfl⟩)
      have hy := hsh y.1.pr (List.mem_map.2 ⟨y.1, y.2, rfl⟩)
      have tx := hT x.1.r (by rw [← hA2]; exact List.mem_map.2 ⟨x.1, x.2, rfl⟩)
      have ty := hT y.1.r (by rw [← hA2]; exact List.mem_map.2 ⟨y.1, y.2, rfl⟩)
      have := CallA.plain (cmpEd_c x.1.r y.1.r (by rw [pr2_len tx]; decide) (by rw [pr2_len ty]; decide)) (w := W) (vs := [x.1.v, y.1.v]) (by
        simp only [ArgsR]
        exact ⟨_, _, [], [], rfl, rfl, row_arg hx, _, _, [], [], rfl, rfl, row_arg hy, rfl, rfl⟩)
      refine Calls.mono (by simpa [enc] using this) ?_
      rintro e w' ⟨rfl, hk'⟩
      exact ⟨rfl, hk'.grown⟩
    have hcon := Any.slices_SortFunc sortEd enc (fun x => x.1.one) (fun x y => lexC x.1.r y.1.r) (swoEd (fun q : { q : RV // q ∈ A } => q.1.r) fun q => hT q.1.r (by rw [← hA2]; exact List.mem_map.2 ⟨q.1, q.2, rfl⟩)) 163 #[] gb o cap d w
      (enters_of Tryz.func163 (by kernel_rfl) rfl) hcmp hH hgb (by omega)
    rw [hds] at hcon
    refine hcon.mono ?_
    rintro e' w' ⟨rfl, d', q, os, hperm, hsort, rfl⟩
    have hd's : d'.size = A.length := by rw [hperm.1, hds]
    have hk : Keep w [gb] (sortWorld enc w gb o q d' os) := keep_sortW1 (ety := ety) (cur := cur) hgb
    have hpl2 : d'.toList.Perm d.toList := by
      have := hperm.2.2
      rw [Array.extract_eq_self_of_le (by omega), Array.extract_eq_self_of_le (by omega)] at this
      exact this
    obtain ⟨B, hB⟩ : ∃ B, B = d'.toList.map Subtype.val := ⟨_, rfl⟩
    have hBA : B.Perm A := by
      rw [hB]
      refine (hpl2.map Subtype.val).trans ?_
      simp only [d]
      rw [List.attach_map_subtype_val]
    have hBR : rowsOf B = T := by
      have hp1 : (rowsOf B).Perm T := by
        have h1 : (rowsOf B).Perm (rowsOf A) := hBA.map RV.r
        rw [hA2] at h1
        exact h1.trans hTR.symm
      have hs1 : (rowsOf B).Pairwise fun a b => 0 ≤ lexC b a := by
        rw [List.pairwise_iff_getElem]
        intro i j hi hj hij
        have hBl : (rowsOf B).length = A.length := by rw [hB]; simp [rowsOf, hd's]
        have := hsort i j (Nat.zero_le _) hij (by omega)
        simp only [Go.Proofs.ltOf, decide_eq_false_iff_not] at this
        rw [getElem!_pos d' i (by omega), getElem!_pos d' j (by omega)] at this
        have ei : (rowsOf B)[i] = d'[i].1.r := by simp [rowsOf, hB]
        have ej : (rowsOf B)[j] = d'[j].1.r := by simp [rowsOf, hB]
        rw [ei, ej]
        omega
      have hpr : ∀ r ∈ T, Pr2 r := fun r hr => hT r (hTR.mem_iff.1 hr)
      refine List.Perm.eq_of_pairwise (fun a b ha hb h1 h2 => ?_) hs1 hTs hp1
      refine Classical.byContradiction fun hne => ?_
      have := ltE_total (hpr a (hp1.mem_iff.1 ha)) (hpr b hb) (fun q => by unfold ltE at q; omega) hne
      unfold ltE at this
      omega
    have hfl2 : d'.toList.map enc = B.map RV.v := by
      rw [hB, List.map_map]
      rfl
    have hBl : B.length = A.length := hBA.length_eq
    have hb : (sortWorld enc w gb o q d' os).heap[gb]? = some (.cells (putCells enc o d' cur) ety (0, 0)) := by
      unfold sortWorld
      rw [heap_grow_old _ _ (by simpa [putRow, mapBlock, Go.Sort.ahead] using hgb)]
      simp [putRow, mapBlock, Go.Sort.ahead, Array.getElem?_modify, h2, onCells]
    generalize sortWorld enc w gb o q d' os = w' at *
    have hpool' : Pool w' (A.map RV.pr) Lp := hpool.same fun g hg => hk.block g (hpl g hg) (by simp only [List.mem_singleton]; rintro rfl; exact hgp hg)
    obtain ⟨Lq, hpq, hperm2⟩ := hpool'.perm (hBA.symm.map RV.pr)
    have hmix : Mixd (vals B) (B.map RV.pr) (rowsOf B) := by
      have := Mixd.lits (B.map RV.pr)
      rw [List.map_map, List.map_map, List.map_map] at this
      exact this
    have hrow2 : RD (Res true F) w' (.sl true 1 (vals B)) (fun _ => .slice (some ⟨gb, o, none⟩) A.length cap) (.slice (some ⟨gb, o, none⟩) A.length cap) [gb] := by
      simp only [RD]
      refine ⟨trivial, B.map RV.v, [gb], [], rfl, .inr ⟨gb, o, A.length, cap, _, ety, rfl, hb, by simp [hBl], h4, h5, by simp [putCells]; omega, ?_, rfl⟩, RDs_of_rv B _ _⟩
      apply List.ext_getElem?
      intro j
      rw [List.getElem?_take]
      by_cases hj : j < A.length
      · rw [if_pos (by omega), List.getElem?_drop]
        have hq : (d'.toList.map enc)[j]? = (B.map RV.v)[j]? := by rw [hfl2]
        simp only [putCells, Array.getElem?_toList, Array.getElem?_mapIdx]
        rw [Array.getElem?_eq_getElem (by omega), ← hq, List.getElem?_map]
        simp [hd's, hj]
      · rw [if_neg (by omega), List.getElem?_eq_none (by simp; omega)]
    obtain ⟨rz, Lz, hrd, hpz⟩ := rd_close (F' := Res true F) hrow2 hpq hmix
    rw [hBR] at hrd
    have hmemz : ∀ g, g ∈ Lz ↔ g = gb ∨ g ∈ Lp := fun g => by rw [hpz.mem_iff, List.mem_append, List.mem_singleton, hperm2.symm.mem_iff]
    refine ⟨[], [], Lz, rfl, ⟨hk.os, hk.tape, hk.output, hk.size, fun b hb hbM => hk.block b hb (fun h => hbM (by simp only [List.mem_singleton] at h; simp [h])), hk.drawn⟩, by simp [VRs], ?_, ?_, ?_⟩
    · simp only [OutsR]
      exact ⟨_, _, _, [], rz, Lz, [], rfl, rfl, by simp, hrd, _, _, rfl, rfl, rfl⟩
    · rw [List.nil_append]
      refine hpz.nodup_iff.2 ?_
      rw [List.singleton_append, List.nodup_cons]
      exact ⟨fun h => hgp (hperm2.symm.mem_iff.1 h), hperm2.nodup_iff.1 hndp⟩
    · intro g hg
      rw [List.nil_append, hmemz] at hg
      rcases hg with rfl | hg
      · exact ⟨Nat.lt_of_lt_of_le hgb hk.size, .inl (by simp)⟩
      · exact ⟨Nat.lt_of_lt_of_le (hpl g hg) hk.size, .inl (by simp [hg])⟩
theorem sortedEdges_c (R : List (List Int)) (hl : R.length ≤ 1000000000) (hT : ∀ r ∈ R, Pr2 r) (hn : R.Nodup) : CallA Tryz.prog 99 [mLL R] [rLL (srtL R R.length)] [] := by
  have hs := sortEd_c R (srtL R R.length) hl hT (srtL_all R) ((srtL_sorted hT hn _ (Nat.le_refl _)).imp_of_mem fun {a b} ha hb h => by
    have := (lexC_neg (hT a ((srtL_all R).mem_iff.1 ha)) (hT b ((srtL_all R).mem_iff.1 hb))).1 h
    omega)
  generalize srtL R R.length = T at *
  refine callA_of _ Tryz.func99 rfl Tryz.ntmps99 solid_any ?_
  repeat' (first | refine Two.mk (fun _ => ?_) (fun _ => ?_) | (guard_target =~ CallN_; first | refine RunU.cons (step_call_io0 (hs) io_any (.sh .nil) (.sh shows_any .nil) (by exact rfl) (by exact rfl) rfl) ?_) | refine goA ?_ | (refine neA ?_; first | refine nxA ?_ | refine Done.ret (.one res_any .nil) (.mv .nil) ?_ rfl) | fail)
  all_goals rfl
theorem delete_c (l : List Int) (v : Nat) (hv : v < l.length) : CallA Tryz.prog 156 [.mv (.one (.sl true 1 (ints l))), aI v, aI ((v : Int) + 1)] [rL (l.eraseIdx v)] [] := by
  have e : l.eraseIdx v = l.take v ++ l.drop (v + 1) := List.eraseIdx_eq_take_drop_succ _ _
  have el : (l.eraseIdx v).length = l.length - 1 := by rw [List.length_eraseIdx, if_pos hv]
  refine del_mv (by omega) (by omega) fun blk off cap w hH h1 h2 => ?_
  have := AnyG.slices_Delete_int del64 blk off cap v (v + 1) l w hH h1 h2 (by omega) (by omega)
  rw [show l.length - (v + 1 - v) = (l.eraseIdx v).length by omega, show v + 1 - v = l.length - (l.eraseIdx v).length by omega, ← e] at this
  exact this
theorem copyGraph_c (w : List Int) (E : List (List Int)) (hw : w.length ≤ 1000) (hE : E.length ≤ 1000) (hr : ∀ i, (E.getD i []).length ≤ 1000) : CallA Tryz.prog 94 [aGr w E] [rGr w E] [] := by
  have h1 := clone_c w (by omega)
  have h2 := copyLists_c E hE hr
  clear hr
  refine callA_of _ Tryz.func94 rfl Tryz.ntmps94 solid_any ?_
  repeat' (first | refine Two.mk (fun _ => ?_) (fun _ => ?_) | (guard_target =~ AtN 5; first | refine RunU.cons (step_call (h1) (.sh .nil) (.sh shows_any .nil) rfl) ?_) | (guard_target =~ AtN 8; first | refine RunU.cons (step_call (h2) (.sh .nil) (.sh shows_any .nil) rfl) ?_) | refine goA ?_ | (refine neA ?_; first | refine nxA ?_ | refine Done.ret (.cell inferInstance rfl rfl .nil) (.sh .nil) ?_ rfl) | fail)
  all_goals first | rfl | (exfalso; omega)
end Go.Proofs.YtneomlnhlpkbjaaGreat
