/- The lists of branches of a bound: what the program and the reference make, in plain terms, and that these are the same. No condition. -/
import Derived.Shelf.SlSortCmp.WholeK
import Derived.Shelf.SlSortCmp.NoneTotal
import Derived.Test.YtinenidbgmddhaaGreatProg
import Derived.Test.YtinenidbgmddhaaGreatUAcB
import Derived.Test.YtinenidbgmddhaaGreatUPwI
import Derived.Test.YtinenidbgmddhaaGreatUAbB
set_option linter.unusedVariables false
set_option linter.unusedSimpArgs false
namespace Go.Proofs.YtinenidbgmddhaaGreat
open Go.Shelf
def sortBr_ren : Go.Shelf.Ren := ⟨fun | 6 => 66 | 15 => 113 | 14 => 112 | 28 => 154 | 29 => 155 | 20 => 146 | 21 => 147 | 22 => 148 | 23 => 149 | 24 => 150 | 25 => 151 | 26 => 152 | 27 => 153 | 46 => 182 | 47 => 183 | 48 => 184 | 49 => 185 | 50 => 186 | 57 => 201 | n => n, fun | 22 => 36 | 24 => 79 | 25 => 82 | 3 => 3 | 39 => 105 | 0 => 0 | 53 => 151 | 55 => 102 | 4 => 4 | 46 => 144 | 45 => 143 | 50 => 148 | 5 => 5 | 9 => 9 | 66 => 170 | 70 => 174 | 76 => 184 | 77 => 185 | n => n, fun | n => n⟩
theorem sortBr : Go.Proofs.SlLaysF0.n6 Tryz.prog sortBr_ren := {
  mixed := by kernel_rfl
  f6 := ⟨Tryz.f66.name, by decide, Tryz.func66.trans (congrArg some (by kernel_rfl))⟩
  f14 := ⟨Tryz.f112.name, by decide, Tryz.func112.trans (congrArg some (by kernel_rfl))⟩
  f15 := Tryz.func113.trans (congrArg some (by kernel_rfl))
  f20 := ⟨Tryz.f146.name, by decide, Tryz.func146.trans (congrArg some (by kernel_rfl))⟩
  f21 := ⟨Tryz.f147.name, by decide, Tryz.func147.trans (congrArg some (by kernel_rfl))⟩
  f22 := ⟨Tryz.f148.name, by decide, Tryz.func148.trans (congrArg some (by kernel_rfl))⟩
  f23 := ⟨Tryz.f149.name, by decide, Tryz.func149.trans (congrArg some (by kernel_rfl))⟩
  f24 := ⟨Tryz.f150.name, by decide, Tryz.func150.trans (congrArg some (by kernel_rfl))⟩
  f25 := ⟨Tryz.f151.name, by decide, Tryz.func151.trans (congrArg some (by kernel_rfl))⟩
  f26 := ⟨Tryz.f152.name, by decide, Tryz.func152.trans (congrArg some (by kernel_rfl))⟩
  f27 := ⟨Tryz.f153.name, by decide, Tryz.func153.trans (congrArg some (by kernel_rfl))⟩
  f28 := Tryz.func154.trans (congrArg some (by kernel_rfl))
  f29 := Tryz.func155.trans (congrArg some (by kernel_rfl))
  f46 := ⟨Tryz.f182.name, by decide, Tryz.func182.trans (congrArg some (by kernel_rfl))⟩
  f47 := Tryz.func183.trans (congrArg some (by kernel_rfl))
  f48 := Tryz.func184.trans (congrArg some (by kernel_rfl))
  f49 := ⟨Tryz.f185.name, by decide, Tryz.func185.trans (congrArg some (by kernel_rfl))⟩
  f50 := ⟨Tryz.f186.name, by decide, Tryz.func186.trans (congrArg some (by kernel_rfl))⟩
  f57 := ⟨Tryz.f201.name, by decide, Tryz.func201.trans (congrArg some (by kernel_rfl))⟩
  t0 := Tryz.underlying0
  a0 := Tryz.isAgg0
  z0 := Tryz.sizeOf0
  v0 := Tryz.zeroValue0
  t3 := Tryz.underlying3
  a3 := Tryz.isAgg3
  z3 := Tryz.sizeOf3
  v3 := Tryz.zeroValue3
  t4 := Tryz.underlying4
  a4 := Tryz.isAgg4
  z4 := Tryz.sizeOf4
  v4 := Tryz.zeroValue4
  t5 := Tryz.underlying5
  a5 := Tryz.isAgg5
  z5 := Tryz.sizeOf5
  v5 := Tryz.zeroValue5
  t9 := Tryz.underlying9
  a9 := Tryz.isAgg9
  z9 := Tryz.sizeOf9
  v9 := Tryz.zeroValue9
  t22 := Tryz.underlying36
  a22 := Tryz.isAgg36
  z22 := Tryz.sizeOf36
  v22 := Tryz.zeroValue36
  t25 := Tryz.underlying82
  a25 := Tryz.isAgg82
  z25 := Tryz.sizeOf82
  v25 := Tryz.zeroValue82
  t39 := Tryz.underlying105
  a39 := Tryz.isAgg105
  z39 := Tryz.sizeOf105
  v39 := Tryz.zeroValue105
  t45 := Tryz.underlying143
  a45 := Tryz.isAgg143
  z45 := Tryz.sizeOf143
  v45 := Tryz.zeroValue143
  t46 := Tryz.underlying144
  a46 := Tryz.isAgg144
  z46 := Tryz.sizeOf144
  v46 := Tryz.zeroValue144
  t50 := Tryz.underlying148
  a50 := Tryz.isAgg148
  z50 := Tryz.sizeOf148
  v50 := Tryz.zeroValue148
  t53 := Tryz.underlying151
  a53 := Tryz.isAgg151
  z53 := Tryz.sizeOf151
  v53 := Tryz.zeroValue151
  t55 := Tryz.underlying102
  a55 := Tryz.isAgg102
  z55 := Tryz.sizeOf102
  v55 := Tryz.zeroValue102
  t66 := Tryz.underlying170
  a66 := Tryz.isAgg170
  z66 := Tryz.sizeOf170
  v66 := Tryz.zeroValue170
  t70 := Tryz.underlying174
  a70 := Tryz.isAgg174
  z70 := Tryz.sizeOf174
  v70 := Tryz.zeroValue174
  t76 := Tryz.underlying184
  a76 := Tryz.isAgg184
  z76 := Tryz.sizeOf184
  v76 := Tryz.zeroValue184
  t77 := Tryz.underlying185
  a77 := Tryz.isAgg185
  z77 := Tryz.sizeOf185
  v77 := Tryz.zeroValue185 }
end Go.Proofs.YtinenidbgmddhaaGreat
namespace Go.Proofs.YtinenidbgmddhaaGreat
set_option maxHeartbeats 20000000
open Go.Pv
open Go.ChangeShapes Go.WideShapes Go.ChangeAt Go.RowKit
attribute [local irreducible] RunU WpA Step CallG CallNG Done DoneN
open Go.Sort Go.Lib
instance fnOk66 : FnOk Tryz.prog 66 := ⟨_, Tryz.func66, rfl, by decide⟩
theorem cmpI_neg (a b : Int) : cmpI a b = - cmpI b a := by
  unfold cmpI
  split <;> split <;> omega
theorem cmpI_zero {a b : Int} (h : cmpI a b = 0) : a = b := by
  unfold cmpI at h
  split at h
  · omega
  · split at h <;> omega
theorem cmpI_lt {a b : Int} : cmpI a b < 0 ↔ a < b := by
  unfold cmpI
  split
  · simp_all
  · split <;> omega
theorem cmpI_self (a : Int) : cmpI a a = 0 := by simp [cmpI]
theorem cmpL_neg : ∀ a b : List Int, cmpL a b = - cmpL b a
  | [], [] => rfl
  | [], _ :: _ => rfl
  | _ :: _, [] => rfl
  | x :: a, y :: b => by
    rw [cmpL, cmpL, cmpL_neg a b]
    have := cmpI_neg x y
    split <;> split <;> omega
theorem cmpL_zero : ∀ {a b : List Int}, cmpL a b = 0 → a = b
  | [], [], _ => rfl
  | [], _ :: _, h => by simp [cmpL] at h
  | _ :: _, [], h => by simp [cmpL] at h
  | x :: a, y :: b, h => by
    rw [cmpL] at h
    split at h
    · contradiction
    · rename_i h0
      have e1 : x = y := cmpI_zero (by simpa using h0)
      rw [e1, cmpL_zero h]
theorem cmpL_trans : ∀ {a b c : List Int}, cmpL a b < 0 → cmpL b c < 0 → cmpL a c < 0
  | [], [], _, h, _ => by simp [cmpL] at h
  | _ :: _, [], _, h, _ => by simp [cmpL] at h
  | [], _ :: _, [], _, h => by simp [cmpL] at h
  | _ :: _, _ :: _, [], _, h => by simp [cmpL] at h
  | [], _ :: _, _ :: _, _, _ => by simp [cmpL]
  | x :: a, y :: b, z :: c, h1, h2 => by
    rw [cmpL] at h1 h2 ⊢
    by_cases e1 : cmpI x y = 0
    · have := cmpI_zero e1
      subst this
      rw [if_neg (by simp [cmpI_self])] at h1
      by_cases e2 : cmpI x z = 0
      · rw [if_neg (by simpa using e2)] at h2 ⊢
        exact cmpL_trans h1 h2
      · rw [if_pos (by simpa using e2)] at h2 ⊢
        exact h2
    · rw [if_pos (by simpa using e1), cmpI_lt] at h1
      by_cases e2 : cmpI y z = 0
      · have := cmpI_zero e2
        subst this
        rw [if_pos (by simpa using e1), cmpI_lt]
        exact h1
      · rw [if_pos (by simpa using e2), cmpI_lt] at h2
        have h3 := cmpI_lt.2 (Int.lt_trans h1 h2)
        rw [if_pos (by omega)]
        exact h3
theorem cmpB_eq (a b : List Int) : cmpB a b = if cmpI (muI a) (muI b) ≠ 0 then cmpI (muI a) (muI b) else cmpL a b := by
  unfold cmpB
  simp only [orI]
  split
  · rfl
  · split <;> omega
theorem cmpB_neg (a b : List Int) : cmpB a b = - cmpB b a := by
  rw [cmpB_eq, cmpB_eq]
  have h1 := cmpI_neg (muI a) (muI b)
  have h2 := cmpL_neg a b
  split <;> split <;> omega
theorem cmpB_zero {a b : List Int} (h : cmpB a b = 0) : a = b := by
  rw [cmpB_eq] at h
  split at h
  · contradiction
  · exact cmpL_zero h
theorem cmpB_trans {a b c : List Int} (h1 : cmpB a b < 0) (h2 : cmpB b c < 0) : cmpB a c < 0 := by
  rw [cmpB_eq] at h1 h2 ⊢
  generalize muI a = x at *
  generalize muI b = y at *
  generalize muI c = z at *
  by_cases e1 : cmpI x y = 0
  · have := cmpI_zero e1
    subst this
    rw [if_neg (by simp [cmpI_self])] at h1
    by_cases e2 : cmpI x z = 0
    · rw [if_neg (by simpa using e2)] at h2 ⊢
      exact cmpL_trans h1 h2
    · rw [if_pos (by simpa using e2)] at h2 ⊢
      exact h2
  · rw [if_pos (by simpa using e1), cmpI_lt] at h1
    by_cases e2 : cmpI y z = 0
    · have := cmpI_zero e2
      subst this
      rw [if_pos (by simpa using e1), cmpI_lt]
      exact h1
    · rw [if_pos (by simpa using e2), cmpI_lt] at h2
      have h3 := cmpI_lt.2 (Int.lt_trans h1 h2)
      rw [if_pos (by omega)]
      exact h3
theorem swoB {α : Type} (key : α → List Int) : SWO (Go.Proofs.ltOf fun x y : α => cmpB (key x) (key y)) where
  irrefl x := by
    have := cmpB_neg (key x) (key x)
    simp only [Go.Proofs.ltOf, decide_eq_false_iff_not]
    omega
  trans x y z h1 h2 := by
    simp only [Go.Proofs.ltOf, decide_eq_true_eq] at *
    exact cmpB_trans h1 h2
  ntrans x y z h1 h2 := by
    simp only [Go.Proofs.ltOf, decide_eq_false_iff_not] at *
    intro h3
    have n1 := cmpB_neg (key x) (key y)
    have n2 := cmpB_neg (key y) (key z)
    rcases Int.lt_or_eq_of_le (show cmpB (key y) (key x) ≤ 0 by omega) with h4 | h4
    · have := cmpB_trans h4 h3
      omega
    · have := cmpB_zero h4
      rw [this] at h2
      exact h2 h3
theorem flat1 {α : Type} [Inhabited α] (e : α → Value) (d : Array α) : flatK (fun q => [e q]) 1 d = (d.toList.map e).toArray := by
  apply ext_get!
  · simp
  · intro t ht
    simp only [size_flatK, Nat.mul_one] at ht
    rw [get_flatK _ _ _ _ (by simpa using ht), Nat.div_one, Nat.mod_one, getElem!_pos d t ht, getElem!_pos _ t (by simpa using ht)]
    simp
theorem keep_sortW {w : World} {g : Nat} {ety : TypeId} {cur : Array Value} {α : Type} [Inhabited α] {enc : α → List Value} {k m o : Nat} {dk : Array α} {os : Array Obj} (hg : g < w.heap.size) : Keep w [g] (sortWorldK enc k w g o m dk os) := by
  refine ⟨rfl, rfl, rfl, ?_, fun b hb hbM => ?_, ?_⟩
  · simp [sortWorldK, putRowK, grow, putRow, mapBlock, Go.Sort.ahead]
  · unfold Same sortWorldK putRowK
    rw [heap_grow_old _ _ (by simpa [putRow, mapBlock, Go.Sort.ahead] using hb)]
    have : g ≠ b := by rintro rfl; exact hbM (by simp)
    simp [putRow, mapBlock, Go.Sort.ahead, Array.getElem?_modify, this]
  · simp [sortWorldK, putRowK, grow, putRow, mapBlock, Go.Sort.ahead]
theorem sortBr_c (R T : List (List Int)) (hl : R.length ≤ 1000000000) (hT : ∀ r ∈ R, Tms r) (hTR : T.Perm R) (hTs : T.Pairwise fun a b => 0 ≤ cmpB b a) :
    CallA Tryz.prog 66 [.io (.sl true 1 (LL R)), .sh (.one (.fn 110 []))] [] [.sl true 1 (LL T)] := by
  unfold CallA CallG
  intro w vs M F hF hargs hnd hM
  simp only [ArgsR, ArgR, VR, RD, RDs] at hargs
  obtain ⟨v, us0, L1, L2, rfl, rfl, ⟨r1, ev, us, L0, Lp, rfl, hrow, hrds⟩, fv, us1, L3, L4, rfl, rfl, ⟨rfl, r2, _, usc, rfl, rfl, _⟩, rfl, rfl⟩ := hargs
  simp only [List.append_nil] at hnd hM hF
  obtain ⟨τ, e1, rfl, hpool⟩ := rds_pool R _ _ _ _ hrds
  obtain ⟨A, rfl⟩ := pool_rvs hpool
  have hA1 : (A.map RV.pr).map Prod.fst = A.map RV.v := by rw [List.map_map]; rfl
  have hA2 : rowsOf A = R := by rw [← e1, List.map_map]; rfl
  rw [hA1] at hrow
  have hlen : A.length = R.length := by rw [← hA2]; simp [rowsOf]
  by_cases hA : A = []
  · subst hA
    have hR : R = [] := by rw [← hA2]; rfl
    subst hR
    have hT0 : T = [] := List.perm_nil.1 hTR
    subst hT0
    have hv : ∃ p c, v = .slice p 0 c := by
      rcases hrow with ⟨e, _, _⟩ | ⟨gb, o, n, cap, cur, ety, e, h2, h3, _⟩
      · exact ⟨_, _, e⟩
      · have : n = 0 := by simpa using h3
        subst this
        exact ⟨_, _, e⟩
    obtain ⟨p, c, hv⟩ := hv
    have hc := AnyF.slices_SortFunc_none sortBr p c (.func (.func 110) #[] #[]) w
    rw [hv]
    refine hc.mono ?_
    rintro e w' ⟨rfl, rfl⟩
    refine ⟨[], [], L0 ++ Lp, rfl, ⟨rfl, rfl, rfl, Nat.le_refl _, fun _ _ _ => rfl, Nat.le_refl _⟩, by simp [VRs], ?_, by simpa using hnd, fun g hg => ⟨hM g (by simpa using hg), .inl (by simpa using hg)⟩⟩
    simp only [OutsR]
    refine ⟨_, _, _, [], r1, L0 ++ Lp, [], rfl, rfl, by simp, ?_, _, _, rfl, rfl, rfl⟩
    simp only [RD]
    cases hpool
    refine ⟨by rw [← hv]; exact ev, [], L0, [], rfl, by rw [← hv]; exact hrow, by simp [RDs]⟩
  · have hpos : 0 < A.length := by
      rcases Nat.eq_zero_or_pos A.length with h | h
      · exact absurd (List.eq_nil_of_length_eq_zero h) hA
      · exact h
    rcases hrow with ⟨_, e0, _⟩ | ⟨gb, o, n, cap, cur, ety, rfl, h2, h3, h4, h5, h6, h7, rfl⟩
    · exact absurd (by simpa using e0) hA
    have hn : n = A.length := by rw [List.length_map] at h3; omega
    subst hn
    have hgb : gb < w.heap.size := hM gb (by simp)
    have hgp : gb ∉ Lp := fun h => by simp only [List.singleton_append, List.nodup_cons] at hnd; exact hnd.1 h
    have hpl : ∀ g ∈ Lp, g < w.heap.size := fun g hg => hM g (by simp [hg])
    have hndp : Lp.Nodup := by simp only [List.singleton_append, List.nodup_cons] at hnd; exact hnd.2
    let inst : Inhabited { q : RV // q ∈ A } := ⟨⟨A[0], List.getElem_mem hpos⟩⟩
    let d : Array { q : RV // q ∈ A } := A.attach.toArray
    have hds : d.size = A.length := by simp [d]
    let enc : { q : RV // q ∈ A } → List Value := fun q => [q.1.v]
    have hfl : flatK enc 1 d = (A.map RV.v).toArray := by
      have := flat1 (fun q : { q : RV // q ∈ A } => q.1.v) d
      rw [show (fun q : { q : RV // q ∈ A } => [q.1.v]) = enc from rfl] at this
      rw [this]
      congr 1
      simp only [d]
      rw [← List.attach_map_subtype_val A]
      simp [List.map_map]
    have hcurA : ∀ j, j < A.length → cur[o + j]? = (A.map RV.v)[j]? := fun j hj => by
      rw [← h7, List.getElem?_take_of_lt (by omega), List.getElem?_drop]; simp
    have hH : HoldsK enc 1 w gb o d := by
      unfold HoldsK
      rw [hfl]
      intro j hj
      simp only [List.size_toArray, List.length_map] at hj
      constructor
      · rw [cell_of_row w gb (o + j) cur ety (0, 0) h2, hcurA j hj]
        simp [hj]
      · simp [World.frozen?, h2]
    have hcmp : CmpLays Tryz.prog 110 #[] enc 1 (fun x y => cmpB x.1.r y.1.r) gb o d.size w := by
      intro m os dk hdk x y
      have hk : Keep w [gb] (sortWorldK enc 1 w gb o m dk os) := keep_sortW (ety := ety) (cur := cur) hgb
      generalize sortWorldK enc 1 w gb o m dk os = W at *
      have hpW : Pool W (A.map RV.pr) Lp := hpool.same fun g hg => hk.block g (hpl g hg) (by simp only [List.mem_singleton]; rintro rfl; exact hgp hg)
      have hsh := hpW.sh (fun g hg => Nat.lt_of_lt_of_le (hpl g hg) hk.size)
      have hx := hsh x.1.pr (List.mem_map.2 ⟨x.1, x.2, rfl⟩)
      have hy := hsh y.1.pr (List.mem_map.2 ⟨y.1, y.2, rfl⟩)
      have tx := hT x.1.r (by rw [← hA2]; exact List.mem_map.2 ⟨x.1, x.2, rfl⟩)
      have ty := hT y.1.r (by rw [← hA2]; exact List.mem_map.2 ⟨y.1, y.2, rfl⟩)
      have := CallA.plain (cmpBr_c x.1.r y.1.r tx ty) (w := W) (vs := [.agg #[x.1.v], .agg #[y.1.v]]) (by
        simp only [ArgsR]
        exact ⟨_, _, [], [], rfl, rfl, br_arg hx, _, _, [], [], rfl, rfl, br_arg hy, rfl, rfl⟩)
      refine Calls.mono (by simpa [enc] using this) ?_
      rintro e w' ⟨rfl, hk'⟩
      exact ⟨rfl, hk'.grown⟩
    have hcon := AnyQ.slices_SortFunc sortBr 1 Tryz.isAgg79 Tryz.sizeOf79 enc (fun _ => rfl) (fun x v hv => by
      simp only [enc, List.mem_singleton] at hv; rw [hv]; exact x.1.one) (fun x y => cmpB x.1.r y.1.r) (swoB fun q : { q : RV // q ∈ A } => q.1.r) 110 #[] gb o cap d w
      (enters_of Tryz.func110 (by kernel_rfl) rfl) hcmp hH hgb (by omega)
    rw [hds] at hcon
    refine hcon.mono ?_
    rintro e' w' ⟨rfl, d', q, os, hperm, hsort, rfl⟩
    have hd's : d'.size = A.length := by rw [hperm.1, hds]
    have hk : Keep w [gb] (sortWorldK enc 1 w gb o q d' os) := keep_sortW (ety := ety) (cur := cur) hgb
    have hpl2 : d'.toList.Perm d.toList := by
      have := hperm.2.2
      rw [Array.extract_eq_self_of_le (by omega), Array.extract_eq_self_of_le (by omega)] at this
      exact this
    obtain ⟨B, hB⟩ : ∃ B, B = d'.toList.map Subtype.val := ⟨_, rfl⟩
    have hBA : B.Perm A := by
      rw [hB]
      refine (hpl2.map Subtype.val).trans ?_
      simp only [d]
      rw [List.attach_map_subtype_val]
    have hBR : rowsOf B = T := by
      have hp1 : (rowsOf B).Perm T := by
        have h1 : (rowsOf B).Perm (rowsOf A) := hBA.map RV.r
        rw [hA2] at h1
        exact h1.trans hTR.symm
      have hs1 : (rowsOf B).Pairwise fun a b => 0 ≤ cmpB b a := by
        rw [List.pairwise_iff_getElem]
        intro i j hi hj hij
        have hBl : (rowsOf B).length = A.length := by rw [hB]; simp [rowsOf, hd's]
        have := hsort i j (Nat.zero_le _) hij (by omega)
        simp only [Go.Proofs.ltOf, decide_eq_false_iff_not] at this
        rw [getElem!_pos d' i (by omega), getElem!_pos d' j (by omega)] at this
        have ei : (rowsOf B)[i] = d'[i].1.r := by simp [rowsOf, hB]
        have ej : (rowsOf B)[j] = d'[j].1.r := by simp [rowsOf, hB]
        rw [ei, ej]
        omega
      refine List.Perm.eq_of_pairwise (fun a b _ _ h1 h2 => ?_) hs1 hTs hp1
      have := cmpB_neg a b
      exact cmpB_zero (by omega)
    have hfl2 : flatK enc 1 d' = (B.map RV.v).toArray := by
      have := flat1 (fun q : { q : RV // q ∈ A } => q.1.v) d'
      rw [show (fun q : { q : RV // q ∈ A } => [q.1.v]) = enc from rfl] at this
      rw [this, hB, List.map_map]
      rfl
    have hBl : B.length = A.length := hBA.length_eq
    have hb : (sortWorldK enc 1 w gb o q d' os).heap[gb]? = some (.cells (putCells id o (B.map RV.v).toArray cur) ety (0, 0)) := by
      unfold sortWorldK putRowK
      rw [hfl2, heap_grow_old _ _ (by simpa [putRow, mapBlock, Go.Sort.ahead] using hgb)]
      simp [putRow, mapBlock, Go.Sort.ahead, Array.getElem?_modify, h2, onCells]
    generalize sortWorldK enc 1 w gb o q d' os = w' at *
    have hpool' : Pool w' (A.map RV.pr) Lp := hpool.same fun g hg => hk.block g (hpl g hg) (by simp only [List.mem_singleton]; rintro rfl; exact hgp hg)
    obtain ⟨Lq, hpq, hperm2⟩ := hpool'.perm (hBA.symm.map RV.pr)
    have hmix : Mixd (vals B) (B.map RV.pr) (rowsOf B) := by
      have := Mixd.lits (B.map RV.pr)
      rw [List.map_map, List.map_map, List.map_map] at this
      exact this
    have hrow2 : RD (Res true F) w' (.sl true 1 (vals B)) (fun _ => .slice (some ⟨gb, o, none⟩) A.length cap) (.slice (some ⟨gb, o, none⟩) A.length cap) [gb] := by
      simp only [RD]
      refine ⟨trivial, B.map RV.v, [gb], [], rfl, .inr ⟨gb, o, A.length, cap, _, ety, rfl, hb, by simp [hBl], h4, h5, by simp [putCells]; omega, ?_, rfl⟩, RDs_of_rv B _ _⟩
      apply List.ext_getElem?
      intro j
      rw [List.getElem?_take]
      by_cases hj : j < A.length
      · rw [if_pos (by omega), List.getElem?_drop]
        simp only [putCells, Array.getElem?_toList, Array.getElem?_mapIdx, List.getElem?_map]
        rw [Array.getElem?_eq_getElem (by omega), List.getElem?_eq_getElem (by omega)]
        simp [hBl, hj, show j < B.length by omega]
      · rw [if_neg (by omega), List.getElem?_eq_none (by simp; omega)]
    obtain ⟨rz, Lz, hrd, hpz⟩ := rd_close (F' := Res true F) hrow2 hpq hmix
    rw [hBR] at hrd
    have hmemz : ∀ g, g ∈ Lz ↔ g = gb ∨ g ∈ Lp := fun g => by rw [hpz.mem_iff, List.mem_append, List.mem_singleton, hperm2.symm.mem_iff]
    refine ⟨[], [], Lz, rfl, ⟨hk.os, hk.tape, hk.output, hk.size, fun b hb hbM => hk.block b hb (fun h => hbM (by simp only [List.mem_singleton] at h; simp [h])), hk.drawn⟩, by simp [VRs], ?_, ?_, ?_⟩
    · simp only [OutsR]
      exact ⟨_, _, _, [], rz, Lz, [], rfl, rfl, by simp, hrd, _, _, rfl, rfl, rfl⟩
    · rw [List.nil_append]
      refine hpz.nodup_iff.2 ?_
      rw [List.singleton_append, List.nodup_cons]
      exact ⟨fun h => hgp (hperm2.symm.mem_iff.1 h), hperm2.nodup_iff.1 hndp⟩
    · intro g hg
      rw [List.nil_append, hmemz] at hg
      rcases hg with rfl | hg
      · exact ⟨Nat.lt_of_lt_of_le hgb hk.size, .inl (by simp)⟩
      · exact ⟨Nat.lt_of_lt_of_le (hpl g hg) hk.size, .inl (by simp [hg])⟩
end Go.Proofs.YtinenidbgmddhaaGreat
namespace Go.Proofs.YtinenidbgmddhaaGreat
set_option maxHeartbeats 20000000
open Go.Pv
open Go.ChangeShapes Go.WideShapes Go.ChangeAt Go.RowKit
attribute [local irreducible] RunU WpA Step CallG CallNG Done DoneN
def perB (m n b : Int) : List (List Int) := if b % n ≠ 0 then within 3 [n, b] (Int.gcd n b) (m + 1) else []
def perN (m n : Int) : List (List Int) := (rng (n + 1) (m / (n - 1) + 1)).flatMap (perB m n)
def rawI (m : Int) : List (List Int) := [[1]] ++ (rng 2 8).flatMap (perN m)
def lateB (m : Int) (r : List Int) : Bool := decide (m < muI r)
def implL (m : Int) : List (List Int) := (rawI m).filter fun r => !lateB m r
def ownG (terms : List Int) (value b : Int) : Int := if terms.length ≤ 1 then b else value + b - lastOf terms
def topG (terms : List Int) (value sum most : Int) : Int := if terms.length ≤ 1 then most - sum else most - sum - value + lastOf terms
def growS : Nat → List Int → Int → Int → Int → Int → List (List Int)
  | 0, _, _, _, _, _ => []
  | f + 1, l, e, v, s, m => if e = 1 then [l] else (rng (lastOf l + 1) (topG l v s m)).flatMap fun b =>
    if (Int.gcd e b : Int) < e ∧ s + (e / (Int.gcd e b : Int) - 1) * ownG l v b ≤ m then growS f (l ++ [b]) (Int.gcd e b) (e / (Int.gcd e b : Int) * ownG l v b) (s + (e / (Int.gcd e b : Int) - 1) * ownG l v b) m else []
def specN (m n : Int) : List (List Int) := if n * (n - 1) ≤ m then growS 4 [n] n 0 (1 - n) m else []
def specR (m : Int) : List (List Int) := [[1]] ++ (rng 2 8).flatMap (specN m)
def tmsB (l : List Int) : Bool := decide (1 ≤ l.length) && decide (l.length ≤ 100) && l.all (fun x => decide (0 ≤ x) && decide (x ≤ 2000)) && (List.range (l.length - 1)).all (fun i => decide (l.getD i 0 ≤ l.getD (i + 1) 0)) && decide (0 < l.getD 0 0)
def chainB : List (List Int) → Bool
  | a :: b :: R => decide (cmpL a b < 0) && chainB (b :: R)
  | _ => true
def okB (m : Int) : Bool := decide (implL m = specR m) && chainB (specR m) && (rawI m).all tmsB && decide ((specR m).length ≤ 2000)
end Go.Proofs.YtinenidbgmddhaaGreat
