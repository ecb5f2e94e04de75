/- The library's contracts at this program's numbers. No condition. -/
import Derived.Test.YtinenidbgmddhaaGreatUCwE
import Derived.Test.YtinenidbgmddhaaGreatULay3
import Derived.Test.YtinenidbgmddhaaGreatUDgC
import Derived.Shelf.SlSortCmp.WholeK
import Derived.Shelf.SlSortCmp.NoneTotal
import Derived.Test.YtinenidbgmddhaaGreatProg
set_option linter.unusedVariables false
set_option linter.unusedSimpArgs false
namespace Go.Proofs.YtinenidbgmddhaaGreat
set_option maxHeartbeats 20000000
open Go.Pv
open Go.ChangeShapes Go.WideShapes Go.ChangeAt Go.RowKit
attribute [local irreducible] RunU WpA Step CallG CallNG Done DoneN DoneF CallF StepX
instance fnOk9 : FnOk Tryz.prog 9 := ⟨_, Tryz.func9, rfl, by decide⟩
instance fnOk7 : FnOk Tryz.prog 7 := ⟨_, Tryz.func7, rfl, by decide⟩
attribute [local irreducible] decStrict decFalls decIsBr decWithin Strict Falls IsBr Within IsCu
def okPB (c : CuP) : Bool := decide (c.1.length ≤ 6) && decide (c.2.length = c.1.length) && (c.1.all fun r => decide (r.length ≤ 2)) && c.2.all fun r => decide (r.length = c.1.length)
theorem okPB_ok {c : CuP} (h : okPB c = true) : OkP c := by
  unfold okPB at h
  simp only [Bool.and_eq_true, decide_eq_true_eq, List.all_eq_true] at h
  obtain ⟨⟨⟨h1, h2⟩, h3⟩, h4⟩ := h
  refine ⟨c.1.length, h1, rfl, h2, fun i => ?_, fun i hi => ?_⟩
  · by_cases hi : i < c.1.length
    · rw [List.getD_eq_getElem?_getD, List.getElem?_eq_getElem hi]
      have := h3 _ (List.getElem_mem hi)
      simp only [Option.getD_some]; omega
    · rw [List.getD_eq_getElem?_getD, List.getElem?_eq_none (by omega)]; simp
  · rw [List.getD_eq_getElem?_getD, List.getElem?_eq_getElem (by omega)]
    exact h4 _ (List.getElem_mem (by omega))
noncomputable def okX (m : Int) : Bool := match enS m with
  | some a => a.all okPB && (decide (a.length ≤ 100) && decide ((specL m).length ≤ 1000))
  | none => false
theorem okX_low : (List.range 9).all (fun k => okX k) = true := by decide +kernel
theorem okX_9 : okX 9 = true := by decide +kernel
theorem okX_10 : okX 10 = true := by decide +kernel
theorem okX_at {m : Int} (hm : 0 ≤ m ∧ m ≤ 10) : okX m = true := by
  by_cases h9 : m = 9
  · rw [h9]; exact okX_9
  by_cases h10 : m = 10
  · rw [h10]; exact okX_10
  have h := okX_low
  rw [List.all_eq_true] at h
  have := h m.toNat (List.mem_range.2 (by omega))
  rwa [show ((m.toNat : Nat) : Int) = m by omega] at this
noncomputable def cuL (m : Int) : List CuP := match enS m with
  | some a => sifS a
  | none => []
theorem listC_c (m : Int) (hm : 0 ≤ m ∧ m ≤ 10) : CallF Tryz.prog 27 [aI m] [.one (.sl false 2 (cellsF (cuL m)))] := by
  have h := okX_at hm
  unfold okX at h
  unfold cuL
  cases he : enS m with
  | none => rw [he] at h; simp at h
  | some a =>
    rw [he] at h
    simp only [Bool.and_eq_true, decide_eq_true_eq, List.all_eq_true] at h
    obtain ⟨h1, h2, h3⟩ := h
    exact l19All_c m hm a he h3 (fun c hc => okPB_ok (h1 c hc)) (by omega)
theorem cuL_ok {m : Int} (hm : 0 ≤ m ∧ m ≤ 10) : (∀ c ∈ cuL m, OkP c) ∧ (cuL m).length ≤ 100 := by
  have h := okX_at hm
  unfold okX at h
  unfold cuL
  cases he : enS m with
  | none => rw [he] at h; simp at h
  | some a =>
    rw [he] at h
    simp only [Bool.and_eq_true, decide_eq_true_eq, List.all_eq_true] at h
    obtain ⟨h1, h2, h3⟩ := h
    have := sifTo_ok (fun c hc => okPB_ok (h1 c hc)) a.length (Nat.le_refl _)
    have e : sifS a = sifTo a a.length := by rw [sifTo, List.take_length]; rfl
    show (∀ c ∈ sifS a, OkP c) ∧ (sifS a).length ≤ 100
    rw [e]
    exact ⟨this.1, by omega⟩
end Go.Proofs.YtinenidbgmddhaaGreat
namespace Go.Proofs.YtinenidbgmddhaaGreat
set_option maxHeartbeats 20000000
open Go.Pv
open Go.ChangeShapes Go.WideShapes Go.ChangeAt Go.RowKit
attribute [local irreducible] RunU WpA Step CallG CallNG Done DoneN
open Go.Sort Go.Lib
instance fnOk69 : FnOk Tryz.prog 69 := ⟨_, Tryz.func69, rfl, by decide⟩
instance fnOk67 : FnOk Tryz.prog 67 := ⟨_, Tryz.func67, rfl, by decide⟩
theorem cmpLv_eqL : ∀ a b : List Int, cmpLv a b = cmpL a b
  | [], [] => rfl
  | [], _ :: _ => rfl
  | _ :: _, [] => rfl
  | x :: a, y :: b => by
    have ih := cmpLv_eqL a b
    unfold cmpLv cmpL cmpI
    rw [ih]
    by_cases h1 : x < y
    · simp [h1]
    · by_cases h2 : y < x
      · simp [h1, h2]
      · simp [h1, h2]
theorem cmpK_neg (a b : List Int) : cmpK a b = - cmpK b a := by
  unfold cmpK
  rw [cmpLv_eqL, cmpLv_eqL]
  exact cmpL_neg _ _
theorem cmpK_zero {a b : List Int} (h : cmpK a b = 0) : a = b := by
  unfold cmpK at h
  rw [cmpLv_eqL] at h
  have := cmpL_zero h
  exact (List.cons.inj this).2
theorem cmpK_trans {a b c : List Int} (h1 : cmpK a b < 0) (h2 : cmpK b c < 0) : cmpK a c < 0 := by
  unfold cmpK at *
  rw [cmpLv_eqL] at *
  exact cmpL_trans h1 h2
theorem swoK {α : Type} (key : α → List Int) : SWO (Go.Proofs.ltOf fun x y : α => cmpK (key x) (key y)) where
  irrefl x := by
    have := cmpK_neg (key x) (key x)
    simp only [Go.Proofs.ltOf, decide_eq_false_iff_not]
    omega
  trans x y z h1 h2 := by
    simp only [Go.Proofs.ltOf, decide_eq_true_eq] at *
    exact cmpK_trans h1 h2
  ntrans x y z h1 h2 := by
    simp only [Go.Proofs.ltOf, decide_eq_false_iff_not] at *
    intro h3
    have n1 := cmpK_neg (key x) (key y)
    have n2 := cmpK_neg (key y) (key z)
    rcases Int.lt_or_eq_of_le (show cmpK (key y) (key x) ≤ 0 by omega) with h4 | h4
    · have := cmpK_trans h4 h3
      omega
    · have := cmpK_zero h4
      rw [this] at h2
      exact h2 h3
theorem branchKey_c (l : List Int) (h : l.length ≤ 1000) : CallA Tryz.prog 69 [aBr1 l] [rL (keyR2 l)] [] := by
  unfold keyR2
  refine callA_of _ Tryz.func69 rfl Tryz.ntmps69 solid_any ?_
  repeat' (first | refine Two.mk (fun _ => ?_) (fun _ => ?_) | refine goA ?_ | (refine neA ?_; first | refine nxA ?_ | refine Done.ret (.one res_any .nil) (.sh .nil) ?_ rfl) | fail)
  all_goals first | rfl | (exfalso; omega)
theorem cmpK_c (a b : List Int) (ha : a.length ≤ 1000) (hb : b.length ≤ 1000) : CallA Tryz.prog 67 [aBr1 a, aBr1 b] [rI (cmpK a b)] [] := by
  have h1 := branchKey_c a ha
  have h2 := branchKey_c b hb
  have h3 := compareLv_c (keyR2 a) (keyR2 b) (by simp [keyR2]; omega) (by simp [keyR2]; omega)
  have e : cmpK a b = cmpLv (keyR2 a) (keyR2 b) := rfl
  rw [e]
  by_cases hab : a = b
  · subst hab
    generalize keyR2 a = x at *
    generalize cmpLv x x = q at *
    refine callA_of _ Tryz.func67 rfl Tryz.ntmps67 solid_any ?_
    repeat' (first | refine Two.mk (fun _ => ?_) (fun _ => ?_) | (guard_target =~ CallN_; first | refine RunU.cons (step_call (h1) (.sh .nil) (.shAgg rfl aggs_any .nil) rfl) ?_ | refine RunU.cons (step_call (h3) (.sh (.sh .nil)) (.sh shows_any (.sh shows_any .nil)) rfl) ?_) | refine goA ?_ | (refine neA ?_; first | refine nxA ?_ | refine Done.ret (.one res_any .nil) (.sh (.sh .nil)) ?_ rfl) | fail)
    all_goals first | rfl | (exfalso; omega)
  · generalize keyR2 a = x at *
    generalize keyR2 b = y at *
    generalize cmpLv x y = q at *
    refine callA_of _ Tryz.func67 rfl Tryz.ntmps67 solid_any ?_
    repeat' (first | refine Two.mk (fun _ => ?_) (fun _ => ?_) | (guard_target =~ AtN 6; first | refine RunU.cons (step_call (h1) (.sh .nil) (.shAgg rfl aggs_any .nil) rfl) ?_) | (guard_target =~ AtN 8; first | refine RunU.cons (step_call (h2) (.sh .nil) (.shAgg rfl aggs_any .nil) rfl) ?_) | (guard_target =~ CallN_; first | refine RunU.cons (step_call (h3) (.sh (.sh .nil)) (.sh shows_any (.sh shows_any .nil)) rfl) ?_) | refine goA ?_ | (refine neA ?_; first | refine nxA ?_ | refine Done.ret (.one res_any .nil) (.sh (.sh .nil)) ?_ rfl) | fail)
    all_goals first | rfl | (exfalso; omega)
set_option maxRecDepth 100000 in
theorem sortK_c (R T : List (List Int)) (hl : R.length ≤ 1000000000) (hT : ∀ r ∈ R, r.length ≤ 1000) (hTR : T.Perm R) (hTs : T.Pairwise fun a b => 0 ≤ cmpK b a) :
    CallA Tryz.prog 66 [.io (.sl true 1 (LL R)), .sh (.one (.fn 67 []))] [] [.sl true 1 (LL T)] := by
  unfold CallA CallG
  intro w vs M F hF hargs hnd hM
  simp only [ArgsR, ArgR, VR, RD, RDs] at hargs
  obtain ⟨v, us0, L1, L2, rfl, rfl, ⟨r1, ev, us, L0, Lp, rfl, hrow, hrds⟩, fv, us1, L3, L4, rfl, rfl, ⟨rfl, r2, _, usc, rfl, rfl, _⟩, rfl, rfl⟩ := hargs
  simp only [List.append_nil] at hnd hM hF
  obtain ⟨τ, e1, rfl, hpool⟩ := rds_pool R _ _ _ _ hrds
  obtain ⟨A, rfl⟩ := pool_rvs hpool
  have hA1 : (A.map RV.pr).map Prod.fst = A.map RV.v := by rw [List.map_map]; rfl
  have hA2 : rowsOf A = R := by rw [← e1, List.map_map]; rfl
  rw [hA1] at hrow
  have hlen : A.length = R.length := by rw [← hA2]; simp [rowsOf]
  by_cases hA : A = []
  · subst hA
    have hR : R = [] := by rw [← hA2]; rfl
    subst hR
    have hT0 : T = [] := List.perm_nil.1 hTR
    subst hT0
    have hv : ∃ p c, v = .slice p 0 c := by
      rcases hrow with ⟨e, _, _⟩ | ⟨gb, o, n, cap, cur, ety, e, h2, h3, _⟩
      · exact ⟨_, _, e⟩
      · have : n = 0 := by simpa using h3
        subst this
        exact ⟨_, _, e⟩
    obtain ⟨p, c, hv⟩ := hv
    have hc := AnyF.slices_SortFunc_none sortBr p c (.func (.func 67) #[] #[]) w
    rw [hv]
    refine hc.mono ?_
    rintro e w' ⟨rfl, rfl⟩
    refine ⟨[], [], L0 ++ Lp, rfl, ⟨rfl, rfl, rfl, Nat.le_refl _, fun _ _ _ => rfl, Nat.le_refl _⟩, by simp [VRs], ?_, by simpa using hnd, fun g hg => ⟨hM g (by simpa using hg), .inl (by simpa using hg)⟩⟩
    simp only [OutsR]
    refine ⟨_, _, _, [], r1, L0 ++ Lp, [], rfl, rfl, by simp, ?_, _, _, rfl, rfl, rfl⟩
    simp only [RD]
    cases hpool
    refine ⟨by rw [← hv]; exact ev, [], L0, [], rfl, by rw [← hv]; exact hrow, by simp [RDs]⟩
  · have hpos : 0 < A.length := by
      rcases Nat.eq_zero_or_pos A.length with h | h
      · exact absurd (List.eq_nil_of_length_eq_zero h) hA
      · exact h
    rcases hrow with ⟨_, e0, _⟩ | ⟨gb, o, n, cap, cur, ety, rfl, h2, h3, h4, h5, h6, h7, rfl⟩
    · exact absurd (by simpa using e0) hA
    have hn : n = A.length := by rw [List.length_map] at h3; omega
    subst hn
    have hgb : gb < w.heap.size := hM gb (by simp)
    have hgp : gb ∉ Lp := fun h => by simp only [List.singleton_append, List.nodup_cons] at hnd; exact hnd.1 h
    have hpl : ∀ g ∈ Lp, g < w.heap.size := fun g hg => hM g (by simp [hg])
    have hndp : Lp.Nodup := by simp only [List.singleton_append, List.nodup_cons] at hnd; exact hnd.2
    let inst : Inhabited { q : RV // q ∈ A } := ⟨⟨A[0], List.getElem_mem hpos⟩⟩
    let d : Array { q : RV // q ∈ A } := A.attach.toArray
    have hds : d.size = A.length := by simp [d]
    let enc : { q : RV // q ∈ A } → List Value := fun q => [q.1.v]
    have hfl : flatK enc 1 d = (A.map RV.v).toArray := by
      have := flat1 (fun q : { q : RV // q ∈ A } => q.1.v) d
      rw [show (fun q : { q : RV // q ∈ A } => [q.1.v]) = enc from rfl] at this
      rw [this]
      congr 1
      simp only [d]
      rw [← List.attach_map_subtype_val A]
      simp [List.map_map]
    have hcurA : ∀ j, j < A.length → cur[o + j]? = (A.map RV.v)[j]? := fun j hj => by
      rw [← h7, List.getElem?_take_of_lt (by omega), List.getElem?_drop]; simp
    have hH : HoldsK enc 1 w gb o d := by
      unfold HoldsK
      rw [hfl]
      intro j hj
      simp only [List.size_toArray, List.length_map] at hj
      constructor
      · rw [cell_of_row w gb (o + j) cur ety (0, 0) h2, hcurA j hj]
        simp [hj]
      · simp [World.frozen?, h2]
    have hcmp : CmpLays Tryz.prog 67 #[] enc 1 (fun x y => cmpK x.1.r y.1.r) gb o d.size w := by
      intro m os dk hdk x y
      have hk : Keep w [gb] (sortWorldK enc 1 w gb o m dk os) := keep_sortW (ety := ety) (cur := cur) hgb
      generalize sortWorldK enc 1 w gb o m dk os = W at *
      have hpW : Pool W (A.map RV.pr) Lp := hpool.same fun g hg => hk.block g (hpl g hg) (by simp only [List.mem_singleton]; rintro rfl; exact hgp hg)
      have hsh := hpW.sh (fun g hg => Nat.lt_of_lt_of_le (hpl g hg) hk.size)
      have hx := hsh x.1.pr (List.mem_map.2 ⟨x.1, x.2, rfl⟩)
      have hy := hsh y.1.pr (List.mem_map.2 ⟨y.1, y.2, rfl⟩)
      have tx := hT x.1.r (by rw [← hA2]; exact List.mem_map.2 ⟨x.1, x.2, rfl⟩)
      have ty := hT y.1.r (by rw [← hA2]; exact List.mem_map.2 ⟨y.1, y.2, rfl⟩)
      have := CallA.plain (cmpK_c x.1.r y.1.r tx ty) (w := W) (vs := [.agg #[x.1.v], .agg #[y.1.v]]) (by
        simp only [ArgsR]
        exact ⟨_, _, [], [], rfl, rfl, br_arg hx, _, _, [], [], rfl, rfl, br_arg hy, rfl, rfl⟩)
      refine Calls.mono (by simpa [enc] using this) ?_
      rintro e w' ⟨rfl, hk'⟩
      exact ⟨rfl, hk'.grown⟩
    have hcon := AnyQ.slices_SortFunc sortBr 1 Tryz.isAgg79 Tryz.sizeOf79 enc (fun _ => rfl) (fun x v hv => by
      simp only [enc, List.mem_singleton] at hv; rw [hv]; exact x.1.one) (fun x y => cmpK x.1.r y.1.r) (swoK fun q : { q : RV // q ∈ A } => q.1.r) 67 #[] gb o cap d w
      (enters_of Tryz.func67 (by kernel_rfl) rfl) hcmp hH hgb (by omega)
    rw [hds] at hcon
    refine hcon.mono ?_
    rintro e' w' ⟨rfl, d', q, os, hperm, hsort, rfl⟩
    have hd's : d'.size = A.length := by rw [hperm.1, hds]
    have hk : Keep w [gb] (sortWorldK enc 1 w gb o q d' os) := keep_sortW (ety := ety) (cur := cur) hgb
    have hpl2 : d'.toList.Perm d.toList := by
      have := hperm.2.2
      rw [Array.extract_eq_self_of_le (by omega), Array.extract_eq_self_of_le (by omega)] at this
      exact this
    obtain ⟨B, hB⟩ : ∃ B, B = d'.toList.map Subtype.val := ⟨_, rfl⟩
    have hBA : B.Perm A := by
      rw [hB]
      refine (hpl2.map Subtype.val).trans ?_
      simp only [d]
      rw [List.attach_map_subtype_val]
    have hBR : rowsOf B = T := by
      have hp1 : (rowsOf B).Perm T := by
        have h1 : (rowsOf B).Perm (rowsOf A) := hBA.map RV.r
        rw [hA2] at h1
        exact h1.trans hTR.symm
      have hs1 : (rowsOf B).Pairwise fun a b => 0 ≤ cmpK b a := by
        rw [List.pairwise_iff_getElem]
        intro i j hi hj hij
        have hBl : (rowsOf B).length = A.length := by rw [hB]; simp [rowsOf, hd's]
        have := hsort i j (Nat.zero_le _) hij (by omega)
        simp only [Go.Proofs.ltOf, decide_eq_false_iff_not] at this
        rw [getElem!_pos d' i (by omega), getElem!_pos d' j (by omega)] at this
        have ei : (rowsOf B)[i] = d'[i].1.r := by simp [rowsOf, hB]
        have ej : (rowsOf B)[j] = d'[j].1.r := by simp [rowsOf, hB]
        rw [ei, ej]
        omega
      refine List.Perm.eq_of_pairwise (fun a b _ _ h1 h2 => ?_) hs1 hTs hp1
      have := cmpK_neg a b
      exact cmpK_zero (by omega)
    have hfl2 : flatK enc 1 d' = (B.map RV.v).toArray := by
      have := flat1 (fun q : { q : RV // q ∈ A } => q.1.v) d'
      rw [show (fun q : { q : RV // q ∈ A } => [q.1.v]) = enc from rfl] at this
      rw [this, hB, List.map_map]
      rfl
    have hBl : B.length = A.length := hBA.length_eq
    have hb : (sortWorldK enc 1 w gb o q d' os).heap[gb]? = some (.cells (putCells id o (B.map RV.v).toArray cur) ety (0, 0)) := by
      unfold sortWorldK putRowK
      rw [hfl2, heap_grow_old _ _ (by simpa [putRow, mapBlock, Go.Sort.ahead] using hgb)]
      simp [putRow, mapBlock, Go.Sort.ahead, Array.getElem?_modify, h2, onCells]
    generalize sortWorldK enc 1 w gb o q d' os = w' at *
    have hpool' : Pool w' (A.map RV.pr) Lp := hpool.same fun g hg => hk.block g (hpl g hg) (by simp only [List.mem_singleton]; rintro rfl; exact hgp hg)
    obtain ⟨Lq, hpq, hperm2⟩ := hpool'.perm (hBA.symm.map RV.pr)
    have hmix : Mixd (vals B) (B.map RV.pr) (rowsOf B) := by
      have := Mixd.lits (B.map RV.pr)
      rw [List.map_map, List.map_map, List.map_map] at this
      exact this
    have hrow2 : RD (Res true F) w' (.sl true 1 (vals B)) (fun _ => .slice (some ⟨gb, o, none⟩) A.length cap) (.slice (some ⟨gb, o, none⟩) A.length cap) [gb] := by
      simp only [RD]
      refine ⟨trivial, B.map RV.v, [gb], [], rfl, .inr ⟨gb, o, A.length, cap, _, ety, rfl, hb, by simp [hBl], h4, h5, by simp [putCells]; omega, ?_, rfl⟩, RDs_of_rv B _ _⟩
      apply List.ext_getElem?
      intro j
      rw [List.getElem?_take]
      by_cases hj : j < A.length
      · rw [if_pos (by omega), List.getElem?_drop]
        simp only [putCells, Array.getElem?_toList, Array.getElem?_mapIdx, List.getElem?_map]
        rw [Array.getElem?_eq_getElem (by omega), List.getElem?_eq_getElem (by omega)]
        simp [hBl, hj, show j < B.length by omega]
      · rw [if_neg (by omega), List.getElem?_eq_none (by simp; omega)]
    obtain ⟨rz, Lz, hrd, hpz⟩ := rd_close (F' := Res true F) hrow2 hpq hmix
    rw [hBR] at hrd
    have hmemz : ∀ g, g ∈ Lz ↔ g = gb ∨ g ∈ Lp := fun g => by rw [hpz.mem_iff, List.mem_append, List.mem_singleton, hperm2.symm.mem_iff]
    refine ⟨[], [], Lz, rfl, ⟨hk.os, hk.tape, hk.output, hk.size, fun b hb hbM => hk.block b hb (fun h => hbM (by simp only [List.mem_singleton] at h; simp [h])), hk.drawn⟩, by simp [VRs], ?_, ?_, ?_⟩
    · simp only [OutsR]
      exact ⟨_, _, _, [], rz, Lz, [], rfl, rfl, by simp, hrd, _, _, rfl, rfl, rfl⟩
    · rw [List.nil_append]
      refine hpz.nodup_iff.2 ?_
      rw [List.singleton_append, List.nodup_cons]
      exact ⟨fun h => hgp (hperm2.symm.mem_iff.1 h), hperm2.nodup_iff.1 hndp⟩
    · intro g hg
      rw [List.nil_append, hmemz] at hg
      rcases hg with rfl | hg
      · exact ⟨Nat.lt_of_lt_of_le hgb hk.size, .inl (by simp)⟩
      · exact ⟨Nat.lt_of_lt_of_le (hpl g hg) hk.size, .inl (by simp [hg])⟩
end Go.Proofs.YtinenidbgmddhaaGreat
namespace Go.Proofs.YtinenidbgmddhaaGreat
open Go.Shelf
def sortCu_ren : Go.Shelf.Ren := ⟨fun | 6 => 71 | 15 => 113 | 14 => 117 | 28 => 154 | 29 => 155 | 20 => 157 | 21 => 158 | 22 => 159 | 23 => 160 | 24 => 161 | 25 => 162 | 26 => 163 | 27 => 164 | 46 => 187 | 47 => 183 | 48 => 184 | 49 => 188 | 50 => 189 | 57 => 202 | n => n, fun | 22 => 25 | 24 => 38 | 25 => 87 | 3 => 3 | 39 => 105 | 0 => 0 | 53 => 151 | 55 => 102 | 4 => 4 | 46 => 144 | 45 => 143 | 50 => 148 | 5 => 5 | 9 => 9 | 66 => 170 | 70 => 174 | 76 => 184 | 77 => 185 | n => n, fun | n => n⟩
theorem sortCu : Go.Proofs.SlLaysF0.n6 Tryz.prog sortCu_ren := {
  mixed := by kernel_rfl
  f6 := ⟨Tryz.f71.name, by decide, Tryz.func71.trans (congrArg some (by kernel_rfl))⟩
  f14 := ⟨Tryz.f117.name, by decide, Tryz.func117.trans (congrArg some (by kernel_rfl))⟩
  f15 := Tryz.func113.trans (congrArg some (by kernel_rfl))
  f20 := ⟨Tryz.f157.name, by decide, Tryz.func157.trans (congrArg some (by kernel_rfl))⟩
  f21 := ⟨Tryz.f158.name, by decide, Tryz.func158.trans (congrArg some (by kernel_rfl))⟩
  f22 := ⟨Tryz.f159.name, by decide, Tryz.func159.trans (congrArg some (by kernel_rfl))⟩
  f23 := ⟨Tryz.f160.name, by decide, Tryz.func160.trans (congrArg some (by kernel_rfl))⟩
  f24 := ⟨Tryz.f161.name, by decide, Tryz.func161.trans (congrArg some (by kernel_rfl))⟩
  f25 := ⟨Tryz.f162.name, by decide, Tryz.func162.trans (congrArg some (by kernel_rfl))⟩
  f26 := ⟨Tryz.f163.name, by decide, Tryz.func163.trans (congrArg some (by kernel_rfl))⟩
  f27 := ⟨Tryz.f164.name, by decide, Tryz.func164.trans (congrArg some (by kernel_rfl))⟩
  f28 := Tryz.func154.trans (congrArg some (by kernel_rfl))
  f29 := Tryz.func155.trans (congrArg some (by kernel_rfl))
  f46 := ⟨Tryz.f187.name, by decide, Tryz.func187.trans (congrArg some (by kernel_rfl))⟩
  f47 := Tryz.func183.trans (congrArg some (by kernel_rfl))
  f48 := Tryz.func184.trans (congrArg some (by kernel_rfl))
  f49 := ⟨Tryz.f188.name, by decide, Tryz.func188.trans (congrArg some (by kernel_rfl))⟩
  f50 := ⟨Tryz.f189.name, by decide, Tryz.func189.trans (congrArg some (by kernel_rfl))⟩
  f57 := ⟨Tryz.f202.name, by decide, Tryz.func202.trans (congrArg some (by kernel_rfl))⟩
  t0 := Tryz.underlying0
  a0 := Tryz.isAgg0
  z0 := Tryz.sizeOf0
  v0 := Tryz.zeroValue0
  t3 := Tryz.underlying3
  a3 := Tryz.isAgg3
  z3 := Tryz.sizeOf3
  v3 := Tryz.zeroValue3
  t4 := Tryz.underlying4
  a4 := Tryz.isAgg4
  z4 := Tryz.sizeOf4
  v4 := Tryz.zeroValue4
  t5 := Tryz.underlying5
  a5 := Tryz.isAgg5
  z5 := Tryz.sizeOf5
  v5 := Tryz.zeroValue5
  t9 := Tryz.underlying9
  a9 := Tryz.isAgg9
  z9 := Tryz.sizeOf9
  v9 := Tryz.zeroValue9
  t22 := Tryz.underlying25
  a22 := Tryz.isAgg25
  z22 := Tryz.sizeOf25
  v22 := Tryz.zeroValue25
  t25 := Tryz.underlying87
  a25 := Tryz.isAgg87
  z25 := Tryz.sizeOf87
  v25 := Tryz.zeroValue87
  t39 := Tryz.underlying105
  a39 := Tryz.isAgg105
  z39 := Tryz.sizeOf105
  v39 := Tryz.zeroValue105
  t45 := Tryz.underlying143
  a45 := Tryz.isAgg143
  z45 := Tryz.sizeOf143
  v45 := Tryz.zeroValue143
  t46 := Tryz.underlying144
  a46 := Tryz.isAgg144
  z46 := Tryz.sizeOf144
  v46 := Tryz.zeroValue144
  t50 := Tryz.underlying148
  a50 := Tryz.isAgg148
  z50 := Tryz.sizeOf148
  v50 := Tryz.zeroValue148
  t53 := Tryz.underlying151
  a53 := Tryz.isAgg151
  z53 := Tryz.sizeOf151
  v53 := Tryz.zeroValue151
  t55 := Tryz.underlying102
  a55 := Tryz.isAgg102
  z55 := Tryz.sizeOf102
  v55 := Tryz.zeroValue102
  t66 := Tryz.underlying170
  a66 := Tryz.isAgg170
  z66 := Tryz.sizeOf170
  v66 := Tryz.zeroValue170
  t70 := Tryz.underlying174
  a70 := Tryz.isAgg174
  z70 := Tryz.sizeOf174
  v70 := Tryz.zeroValue174
  t76 := Tryz.underlying184
  a76 := Tryz.isAgg184
  z76 := Tryz.sizeOf184
  v76 := Tryz.zeroValue184
  t77 := Tryz.underlying185
  a77 := Tryz.isAgg185
  z77 := Tryz.sizeOf185
  v77 := Tryz.zeroValue185 }
end Go.Proofs.YtinenidbgmddhaaGreat
