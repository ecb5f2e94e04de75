/- The lists of curves by the program. No condition. -/
import Derived.Test.YtinenidbgmddhaaGreatUCwJ
import Derived.Test.YtinenidbgmddhaaGreatUCwE
import Derived.Test.YtinenidbgmddhaaGreatUCwF
import Derived.Test.YtinenidbgmddhaaGreatUCwH
set_option linter.unusedVariables false
set_option linter.unusedSimpArgs false
namespace Go.Proofs.YtinenidbgmddhaaGreat
set_option maxHeartbeats 20000000
open Go.Pv
open Go.ChangeShapes Go.WideShapes Go.ChangeAt Go.RowKit
attribute [local irreducible] RunU WpA Step CallG CallNG Done DoneN
open Go.Sort Go.Lib
instance fnOk118 : FnOk Tryz.prog 118 := ⟨_, Tryz.func118, rfl, by decide⟩
instance fnOk74 : FnOk Tryz.prog 74 := ⟨_, Tryz.func74, rfl, by decide⟩
instance fnOk72 : FnOk Tryz.prog 72 := ⟨_, Tryz.func72, rfl, by decide⟩
instance fnOk71 : FnOk Tryz.prog 71 := ⟨_, Tryz.func71, rfl, by decide⟩
def kc (c : CuP) : List Int := (c.1.length : Int) :: keyC c.1 c.2
theorem cmpC_eq (a b : CuP) : cmpC a b = cmpL (kc a) (kc b) := by
  unfold cmpC kc
  rw [cmpL, cmpLv_eqL]
  rfl
theorem swoC {α : Type} (key : α → List Int) : SWO (Go.Proofs.ltOf fun x y : α => cmpL (key x) (key y)) where
  irrefl x := by
    have := cmpL_neg (key x) (key x)
    simp only [Go.Proofs.ltOf, decide_eq_false_iff_not]
    omega
  trans x y z h1 h2 := by
    simp only [Go.Proofs.ltOf, decide_eq_true_eq] at *
    exact cmpL_trans h1 h2
  ntrans x y z h1 h2 := by
    simp only [Go.Proofs.ltOf, decide_eq_false_iff_not] at *
    intro h3
    have n1 := cmpL_neg (key x) (key y)
    have n2 := cmpL_neg (key y) (key z)
    rcases Int.lt_or_eq_of_le (show cmpL (key y) (key x) ≤ 0 by omega) with h4 | h4
    · have := cmpL_trans h4 h3
      omega
    · have := cmpL_zero h4
      rw [this] at h2
      exact h2 h3
theorem isNaNi_c (x : Int) : CallA Tryz.prog 118 [aI x] [rB false] [] := by
  refine callA_of _ Tryz.func118 rfl Tryz.ntmps118 solid_any ?_
  repeat' (first | refine Two.mk (fun _ => ?_) (fun _ => ?_) | refine goA ?_ | (refine neA ?_; first | refine nxA ?_ | refine Done.ret (.one res_any .nil) (.sh .nil) ?_ rfl) | fail)
  all_goals first | rfl | (simp; done) | skip
theorem compareI_c (a b : Int) : CallA Tryz.prog 74 [aI a, aI b] [rI (cmpI a b)] [] := by
  refine callA_of _ Tryz.func74 rfl Tryz.ntmps74 solid_any ?_
  repeat' (first | refine Two.mk (fun _ => ?_) (fun _ => ?_) | (guard_target =~ AtN 8; first | refine RunU.cons (step_call (isNaNi_c a) (.sh .nil) (.sh shows_any .nil) rfl) ?_) | (guard_target =~ AtN 10; first | refine RunU.cons (step_call (isNaNi_c b) (.sh .nil) (.sh shows_any .nil) rfl) ?_) | refine goA ?_ | (refine neA ?_; first | refine nxA ?_ | refine Done.ret (.one res_any .nil) (.sh (.sh .nil)) ?_ rfl) | fail)
  all_goals simp_all [cmpI]
  all_goals first | done | omega | (split <;> omega)
theorem OkP.keyI {c : CuP} (h : OkP c) : CallA Tryz.prog 45 [aCu c.1 c.2] [rL (keyC c.1 c.2)] [] := by
  obtain ⟨n, hn, h⟩ := h
  have h2 := h.cu (by omega)
  exact keyOf_c c.1 c.2 (by rw [h.l1]; omega) (by rw [h.l2]; omega) h2.r1 h2.r2
theorem cmpCu_c (a b : CuP) (ha : OkP a) (hb : OkP b) : CallA Tryz.prog 72 [aCu a.1 a.2, aCu b.1 b.2] [rI (cmpL (kc a) (kc b))] [] := by
  have h1 := ha.keyI
  have h2 := hb.keyI
  have h3 := compareLv_c (keyC a.1 a.2) (keyC b.1 b.2) ha.key hb.key
  rw [cmpLv_eqL] at h3
  have l1 := ha.len
  have l2 := hb.len
  have hD := compareI_c (a.1.length : Int) (b.1.length : Int)
  have e : cmpL (kc a) (kc b) = orI [cmpI (a.1.length : Int) (b.1.length : Int), cmpL (keyC a.1 a.2) (keyC b.1 b.2)] := by
    unfold kc
    rw [cmpL, orI, orI, orI]
    by_cases q : cmpI (a.1.length : Int) (b.1.length : Int) = 0
    · by_cases q2 : cmpL (keyC a.1 a.2) (keyC b.1 b.2) = 0
      · simp [q, q2]
      · simp [q, q2]
    · simp [q]
  rw [e]
  clear ha hb e
  obtain ⟨a1, a2⟩ := a
  obtain ⟨b1, b2⟩ := b
  dsimp only at *
  generalize cmpI (a1.length : Int) (b1.length : Int) = d at *
  generalize cmpL (keyC a1 a2) (keyC b1 b2) = q at *
  have hO := or_c [d, q] (by simp)
  generalize keyC a1 a2 = k1 at *
  generalize keyC b1 b2 = k2 at *
  refine callA_of _ Tryz.func72 rfl Tryz.ntmps72 solid_any ?_
  repeat' (first | refine Two.mk (fun _ => ?_) (fun _ => ?_) | (guard_target =~ AtN 13; first | refine RunU.cons (step_call (h1) (.sh .nil) (.shAgg rfl aggs_any .nil) rfl) ?_) | (guard_target =~ AtN 15; first | refine RunU.cons (step_call (h2) (.sh .nil) (.shAgg rfl aggs_any .nil) rfl) ?_) | (guard_target =~ AtN 16; first | refine RunU.cons (step_call (h3) (.sh (.sh .nil)) (.sh shows_any (.sh shows_any .nil)) rfl) ?_) | (guard_target =~ AtN 11; first | refine RunU.cons (step_call (hD) (.sh (.sh .nil)) (.sh shows_any (.sh shows_any .nil)) rfl) ?_) | (guard_target =~ CallN_; first | refine RunU.cons (step_call (hO) (.sh .nil) (.sh shows_any .nil) rfl) ?_) | refine goA ?_ | (refine neA ?_; first | refine nxA ?_ | refine Done.ret (.one res_any .nil) (.sh (.sh .nil)) ?_ rfl) | fail)
  all_goals first | rfl | (exfalso; omega)
structure EV where
  u0 : Value
  u1 : Value
  c : CuP
  r0 : Rho
  r1 : Rho
  L0 : List Nat
  L1 : List Nat
abbrev EV.us (e : EV) : List Value := [e.u0, e.u1]
abbrev EV.Ls (e : EV) : List Nat := e.L0 ++ e.L1
def EvOk (F : Nat → Prop) (w : World) (e : EV) : Prop := RD F w (.sl true 1 (LL e.c.1)) e.r0 e.u0 e.L0 ∧ RD F w (.sl true 1 (LL e.c.2)) e.r1 e.u1 e.L1
theorem cellsO_cons (c : CuP) (l : List CuP) : cellsO (c :: l) = .sl true 1 (LL c.1) :: .sl true 1 (LL c.2) :: cellsO l := rfl
theorem evs_of {F : Nat → Prop} {w : World} : ∀ (l : List CuP) (k : Nat) (ρ : Rho) (us : List Value) (L : List Nat), RDs F w (cellsO l) k ρ us L → ∃ A : List EV, A.map (·.c) = l ∧ us = A.flatMap EV.us ∧ L = A.flatMap EV.Ls ∧ ∀ e ∈ A, EvOk F w e
  | [], k, ρ, us, L, h => by
    have h : RDs F w [] k ρ us L := h
    rw [RDs] at h
    exact ⟨[], rfl, h.1, h.2, by simp⟩
  | c :: l, k, ρ, us, L, h => by
    rw [cellsO_cons, RDs] at h
    obtain ⟨u0, us1, L0, L2, rfl, rfl, h0, h⟩ := h
    rw [RDs] at h
    obtain ⟨u1, us2, L1, L3, rfl, rfl, h1, h⟩ := h
    obtain ⟨A, e1, rfl, rfl, h4⟩ := evs_of l _ ρ us2 L3 h
    refine ⟨⟨u0, u1, c, ρ.at k, ρ.at (k + 1), L0, L1⟩ :: A, by simp [e1], by simp, by simp, fun e he => ?_⟩
    rcases List.mem_cons.1 he with rfl | he
    · exact ⟨h0, h1⟩
    · exact h4 e he
theorem evs_to {F : Nat → Prop} {w : World} : ∀ (A : List EV) (k : Nat), (∀ e ∈ A, EvOk F w e) → ∃ ρ, RDs F w (cellsO (A.map (·.c))) k ρ (A.flatMap EV.us) (A.flatMap EV.Ls)
  | [], k, _ => ⟨fun _ => undef, by show RDs F w [] k _ _ _; rw [RDs]; exact ⟨rfl, rfl⟩⟩
  | e :: A, k, h => by
    obtain ⟨ρ, h2⟩ := evs_to A (k + 2) (fun x hx => h x (by simp [hx]))
    have he := h e (by simp)
    refine ⟨(ρ.upd k e.r0).upd (k + 1) e.r1, ?_⟩
    rw [List.map_cons, cellsO_cons, List.flatMap_cons, List.flatMap_cons, RDs]
    refine ⟨e.u0, e.u1 :: A.flatMap EV.us, e.L0, e.L1 ++ A.flatMap EV.Ls, rfl, by simp, ?_, ?_⟩
    · rw [Rho.at_upd_other _ _ _ _ (by omega), Rho.at_upd_same]
      exact he.1
    · rw [RDs]
      refine ⟨e.u1, A.flatMap EV.us, e.L1, A.flatMap EV.Ls, rfl, rfl, ?_, ?_⟩
      · rw [Rho.at_upd_same]
        exact he.2
      · exact RDs.rho _ _ ρ _ _ _ h2 (fun j hj => by rw [Rho.at_upd_other _ _ _ _ (by omega), Rho.at_upd_other _ _ _ _ (by omega)])
theorem EvOk.same {F F' : Nat → Prop} {w w' : World} {e : EV} (h : EvOk F w e) (hF : ∀ g, F g → F' g) (hs : ∀ g, F g → Same w w' g) (hL : ∀ g ∈ e.Ls, Same w w' g) : EvOk F' w' e :=
  ⟨RD.same hF hs _ _ _ _ h.1 (fun g hg => hL g (by simp [hg])), RD.same hF hs _ _ _ _ h.2 (fun g hg => hL g (by simp [hg]))⟩
theorem ev_arg {F F' : Nat → Prop} {w : World} {e : EV} (h : EvOk F w e) (hF : ∀ g, F g → F' g) (hL : ∀ g ∈ e.Ls, F' g) : ArgR F' w (aCu e.c.1 e.c.2) (.agg #[e.u0, e.u1]) [] := by
  have h0 := RD.erase hF _ _ _ _ h.1 (fun g hg => hL g (by simp [hg]))
  have h1 := RD.erase hF _ _ _ _ h.2 (fun g hg => hL g (by simp [hg]))
  simp only [D.erase, erases_LL] at h0 h1
  simp only [ArgR, VR]
  refine ⟨trivial, fun π => match π with | 0 :: q => e.r0 q | _ :: q => e.r1 q | [] => undef, [e.u0, e.u1], rfl, ?_⟩
  rw [RDs]
  refine ⟨e.u0, [e.u1], [], [], rfl, rfl, RD.rho _ _ _ _ _ h0 (fun π => rfl), ?_⟩
  rw [RDs]
  refine ⟨e.u1, [], [], [], rfl, rfl, RD.rho _ _ _ _ _ h1 (fun π => rfl), ?_⟩
  rw [RDs]
  exact ⟨rfl, rfl⟩
theorem flat2_at {α : Type} [Inhabited α] (e f : α → Value) : ∀ (l : List α) (t : Nat), t < l.length * 2 → (l.flatMap fun q => [e q, f q])[t]? = some (if t % 2 = 0 then e (l[t / 2]!) else f (l[t / 2]!))
  | [], t, h => by simp at h
  | a :: l, 0, _ => by simp
  | a :: l, 1, _ => by simp
  | a :: l, t + 2, h => by
    have ih := flat2_at e f l t (by simp at h; omega)
    rw [List.flatMap_cons, show t + 2 = t + 1 + 1 from rfl]
    simp only [List.cons_append, List.nil_append, List.getElem?_cons_succ]
    rw [ih, show (t + 1 + 1) % 2 = t % 2 by omega, show (t + 1 + 1) / 2 = t / 2 + 1 by omega]
    simp
theorem len2 {α : Type} (g : α → List Value) (hg : ∀ a, (g a).length = 2) (l : List α) : (l.flatMap g).length = l.length * 2 := by
  induction l with
  | nil => rfl
  | cons a l ih => rw [List.flatMap_cons, List.length_append, ih, hg, List.length_cons]; omega
theorem flat2 {α : Type} [Inhabited α] (e f : α → Value) (d : Array α) : flatK (fun q => [e q, f q]) 2 d = (d.toList.flatMap fun q => [e q, f q]).toArray := by
  have hl : (d.toList.flatMap fun q => [e q, f q]).length = d.size * 2 := by rw [len2 (fun q => [e q, f q]) (fun _ => rfl), Array.length_toList]
  apply ext_get!
  · rw [size_flatK]
    exact hl.symm.trans (by simp)
  · intro t ht
    simp only [size_flatK] at ht
    rw [get_flatK _ _ _ _ ht]
    have h1 := flat2_at e f d.toList t (by rw [Array.length_toList]; exact ht)
    have ht2 : t < ((d.toList.flatMap fun q => [e q, f q]).toArray).size := by rw [List.size_toArray, hl]; exact ht
    rw [getElem!_pos _ t ht2, List.getElem_toArray]
    rw [List.getElem?_eq_getElem (by rw [hl]; exact ht)] at h1
    rw [Option.some.inj h1]
    have e1 : d.toList[t / 2]! = d[t / 2]! := by
      rw [getElem!_pos d.toList (t / 2) (by rw [Array.length_toList]; omega), getElem!_pos d (t / 2) (by omega), Array.getElem_toList]
    rw [e1]
    rcases Nat.mod_two_eq_zero_or_one t with h | h
    · simp [h]
    · simp [h]
theorem solid_O (l : List CuP) : D.solids (cellsO l) = true := by
  induction l with
  | nil => rfl
  | cons c l ih =>
    rw [cellsO_cons]
    simp only [D.solids, D.solid, solids_LL, ih, Bool.and_self, Bool.and_true]
set_option maxRecDepth 100000 in
theorem sortCu_c (R T : List CuP) (hl : R.length ≤ 1000000000) (hok : ∀ c ∈ R, OkP c) (hz : ∀ a ∈ R, ∀ b ∈ R, cmpC a b = 0 → a = b) (hTR : T.Perm R) (hTs : T.Pairwise fun a b => 0 ≤ cmpC b a) :
    CallA Tryz.prog 71 [.io (.sl true 2 (cellsO R)), .sh (.one (.fn 72 []))] [] [.sl true 2 (cellsO T)] := by
  unfold CallA CallG
  intro w vs M F hF hargs hnd hM
  simp only [ArgsR, ArgR, VR, RD, RDs] at hargs
  obtain ⟨v, us0, L1, L2, rfl, rfl, ⟨r1, ev, us, L0, Lp, rfl, hrow, hrds⟩, fv, us1, L3, L4, rfl, rfl, ⟨rfl, r2, _, usc, rfl, rfl, _⟩, rfl, rfl⟩ := hargs
  simp only [List.append_nil] at hnd hM hF
  obtain ⟨A, e1, rfl, rfl, hA0⟩ := evs_of R _ _ _ _ hrds
  have hlen : A.length = R.length := by rw [← e1, List.length_map]
  have hul : (A.flatMap EV.us).length = A.length * 2 := len2 EV.us (fun _ => rfl) A
  by_cases hA : A = []
  · subst hA
    have hR : R = [] := by rw [← e1]; rfl
    subst hR
    have hT0 : T = [] := List.perm_nil.1 hTR
    subst hT0
    have hv : ∃ p c, v = .slice p 0 c := by
      rcases hrow with ⟨e, _, _⟩ | ⟨gb, o, n, cap, cur, ety, e, h2, h3, _⟩
      · exact ⟨_, _, e⟩
      · have : n = 0 := by simp at h3; omega
        subst this
        exact ⟨_, _, e⟩
    obtain ⟨p, c, hv⟩ := hv
    have hc := AnyF.slices_SortFunc_none sortCu p c (.func (.func 72) #[] #[]) w
    rw [hv]
    refine hc.mono ?_
    rintro e w' ⟨rfl, rfl⟩
    refine ⟨[], [], L0 ++ [], rfl, ⟨rfl, rfl, rfl, Nat.le_refl _, fun _ _ _ => rfl, Nat.le_refl _⟩, by simp [VRs], ?_, by simpa using hnd, fun g hg => ⟨hM g (by simpa using hg), .inl (by simpa using hg)⟩⟩
    simp only [OutsR]
    refine ⟨_, _, _, [], r1, L0 ++ [], [], rfl, rfl, by simp, ?_, _, _, rfl, rfl, rfl⟩
    rw [RD]
    refine ⟨by rw [← hv]; exact ev, [], L0, [], rfl, by rw [← hv]; exact hrow, ?_⟩
    show RDs _ _ [] _ _ _ _
    rw [RDs]
    exact ⟨rfl, rfl⟩
  · have hpos : 0 < A.length := by
      rcases Nat.eq_zero_or_pos A.length with h | h
      · exact absurd (List.eq_nil_of_length_eq_zero h) hA
      · exact h
    rcases hrow with ⟨_, e0, _⟩ | ⟨gb, o, n, cap, cur, ety, rfl, h2, h3, h4, h5, h6, h7, rfl⟩
    · exact absurd (by rw [e0] at hul; simp at hul; omega) (Nat.lt_irrefl 0)
    have hn : n = A.length := by omega
    subst hn
    have hgb : gb < w.heap.size := hM gb (by simp)
    have hgp : gb ∉ A.flatMap EV.Ls := fun h => by simp only [List.singleton_append, List.nodup_cons] at hnd; exact hnd.1 h
    have hpl : ∀ g ∈ A.flatMap EV.Ls, g < w.heap.size := fun g hg => hM g (by simp only [List.mem_append, List.mem_singleton, List.not_mem_nil, or_false]; exact Or.inr hg)
    have hndp : (A.flatMap EV.Ls).Nodup := by simp only [List.singleton_append, List.nodup_cons] at hnd; exact hnd.2
    have hin : ∀ e ∈ A, ∀ g ∈ e.Ls, g ∈ A.flatMap EV.Ls := fun e he g hg => List.mem_flatMap.2 ⟨e, he, hg⟩
    let inst : Inhabited { q : EV // q ∈ A } := ⟨⟨A[0], List.getElem_mem hpos⟩⟩
    let d : Array { q : EV // q ∈ A } := A.attach.toArray
    have hds : d.size = A.length := by simp [d]
    let enc : { q : EV // q ∈ A } → List Value := fun q => [q.1.u0, q.1.u1]
    have hfl : flatK enc 2 d = (A.flatMap EV.us).toArray := by
      have := flat2 (fun q : { q : EV // q ∈ A } => q.1.u0) (fun q : { q : EV // q ∈ A } => q.1.u1) d
      rw [show (fun q : { q : EV // q ∈ A } => [q.1.u0, q.1.u1]) = enc from rfl] at this
      rw [this]
      congr 1
      have e9 : A.flatMap EV.us = (A.attach.map Subtype.val).flatMap EV.us := by rw [List.attach_map_subtype_val]
      rw [e9, List.flatMap_map]
    have hcurA : ∀ j, j < A.length * 2 → cur[o + j]? = (A.flatMap EV.us)[j]? := fun j hj => by
      rw [← h7, List.getElem?_take_of_lt (by omega), List.getElem?_drop]; simp
    have hH : HoldsK enc 2 w gb o d := by
      unfold HoldsK
      rw [hfl]
      intro j hj
      simp only [List.size_toArray] at hj
      rw [hul] at hj
      constructor
      · have hjl : j < (A.flatMap EV.us).length := by omega
        rw [cell_of_row w gb (o + j) cur ety (0, 0) h2, hcurA j hj, List.getElem?_eq_getElem hjl, getElem!_pos _ j (by simpa using hjl), List.getElem_toArray]
        rfl
      · simp [World.frozen?, h2]
    have hcmp : CmpLays Tryz.prog 72 #[] enc 2 (fun x y => cmpL (kc x.1.c) (kc y.1.c)) gb o d.size w := by
      intro m os dk hdk x y
      have hk : Keep w [gb] (sortWorldK enc 2 w gb o m dk os) := keep_sortW (ety := ety) (cur := cur) hgb
      generalize sortWorldK enc 2 w gb o m dk os = W at *
      have hsz := hk.size
      have hFs : ∀ g, F g → Same w W g := fun g hg => hk.block g (hF g hg).1 (by simp only [List.mem_singleton]; rintro rfl; exact (hF g hg).2 (by simp))
      have hLs : ∀ e ∈ A, ∀ g ∈ e.Ls, Same w W g := fun e he g hg => hk.block g (hpl g (hin e he g hg)) (by simp only [List.mem_singleton]; rintro rfl; exact hgp (hin e he g hg))
      have hx := ev_arg (F' := fun g => g < W.heap.size) ((hA0 x.1 x.2).same (fun _ h => h) hFs (hLs _ x.2)) (fun g hg => by have := (hF g hg).1; omega) (fun g hg => by have := hpl g (hin _ x.2 g hg); omega)
      have hy := ev_arg (F' := fun g => g < W.heap.size) ((hA0 y.1 y.2).same (fun _ h => h) hFs (hLs _ y.2)) (fun g hg => by have := (hF g hg).1; omega) (fun g hg => by have := hpl g (hin _ y.2 g hg); omega)
      have tx := hok x.1.c (by rw [← e1]; exact List.mem_map.2 ⟨x.1, x.2, rfl⟩)
      have ty := hok y.1.c (by rw [← e1]; exact List.mem_map.2 ⟨y.1, y.2, rfl⟩)
      have := CallA.plain (cmpCu_c x.1.c y.1.c tx ty) (w := W) (vs := [.agg #[x.1.u0, x.1.u1], .agg #[y.1.u0, y.1.u1]]) (by
        simp only [ArgsR]
        exact ⟨_, _, [], [], rfl, rfl, hx, _, _, [], [], rfl, rfl, hy, rfl, rfl⟩)
      refine Calls.mono (by simpa [enc] using this) ?_
      rintro e w' ⟨rfl, hk'⟩
      exact ⟨rfl, hk'.grown⟩
    have hcon := AnyQ.slices_SortFunc sortCu 2 Tryz.isAgg38 Tryz.sizeOf38 enc (fun _ => rfl) (fun x v hv => by
      simp only [enc, List.mem_cons, List.not_mem_nil, or_false] at hv
      rcases hv with hv | hv
      · rw [hv]; exact (hA0 x.1 x.2).1.one
      · rw [hv]; exact (hA0 x.1 x.2).2.one) (fun x y => cmpL (kc x.1.c) (kc y.1.c)) (swoC fun q : { q : EV // q ∈ A } => kc q.1.c) 72 #[] gb o cap d w
      (enters_of Tryz.func72 (by kernel_rfl) rfl) hcmp hH hgb (by omega)
    rw [hds] at hcon
    refine hcon.mono ?_
    rintro e' w' ⟨rfl, d', q, os, hperm, hsort, rfl⟩
    have hd's : d'.size = A.length := by rw [hperm.1, hds]
    have hk : Keep w [gb] (sortWorldK enc 2 w gb o q d' os) := keep_sortW (ety := ety) (cur := cur) hgb
    have hpl2 : d'.toList.Perm d.toList := by
      have := hperm.2.2
      rw [Array.extract_eq_self_of_le (by omega), Array.extract_eq_self_of_le (by omega)] at this
      exact this
    obtain ⟨B, hB⟩ : ∃ B, B = d'.toList.map Subtype.val := ⟨_, rfl⟩
    have hBA : B.Perm A := by
      rw [hB]
      refine (hpl2.map Subtype.val).trans ?_
      simp only [d]
      rw [List.attach_map_subtype_val]
    have hBR : B.map (·.c) = T := by
      have hp0 : (B.map (·.c)).Perm R := by
        have h1 : (B.map (·.c)).Perm (A.map (·.c)) := hBA.map _
        rw [e1] at h1
        exact h1
      have hs1 : (B.map (·.c)).Pairwise fun a b => 0 ≤ cmpC b a := by
        rw [List.pairwise_iff_getElem]
        intro i j hi hj hij
        have hBl : (B.map (·.c)).length = A.length := by rw [hB]; simp [hd's]
        have := hsort i j (Nat.zero_le _) hij (by omega)
        simp only [Go.Proofs.ltOf, decide_eq_false_iff_not] at this
        rw [getElem!_pos d' i (by omega), getElem!_pos d' j (by omega)] at this
        have ei : (B.map (·.c))[i] = d'[i].1.c := by simp [hB]
        have ej : (B.map (·.c))[j] = d'[j].1.c := by simp [hB]
        rw [ei, ej, cmpC_eq]
        omega
      refine List.Perm.eq_of_pairwise (fun a b ha hb h1 h2 => ?_) hs1 hTs (hp0.trans hTR.symm)
      have hn := cmpL_neg (kc a) (kc b)
      rw [cmpC_eq] at h1 h2
      exact hz a (hp0.mem_iff.1 ha) b (hTR.mem_iff.1 hb) (by rw [cmpC_eq]; omega)
    have hfl2 : flatK enc 2 d' = (B.flatMap EV.us).toArray := by
      have := flat2 (fun q : { q : EV // q ∈ A } => q.1.u0) (fun q : { q : EV // q ∈ A } => q.1.u1) d'
      rw [show (fun q : { q : EV // q ∈ A } => [q.1.u0, q.1.u1]) = enc from rfl] at this
      rw [this, hB, List.flatMap_map]
    have hBl : B.length = A.length := hBA.length_eq
    have hBu : (B.flatMap EV.us).length = A.length * 2 := by rw [len2 EV.us (fun _ => rfl), hBl]
    have hb : (sortWorldK enc 2 w gb o q d' os).heap[gb]? = some (.cells (putCells id o (B.flatMap EV.us).toArray cur) ety (0, 0)) := by
      unfold sortWorldK putRowK
      rw [hfl2, heap_grow_old _ _ (by simpa [putRow, mapBlock, Go.Sort.ahead] using hgb)]
      simp [putRow, mapBlock, Go.Sort.ahead, Array.getElem?_modify, h2, onCells]
    generalize sortWorldK enc 2 w gb o q d' os = w' at *
    have hFs : ∀ g, F g → Same w w' g := fun g hg => hk.block g (hF g hg).1 (by simp only [List.mem_singleton]; rintro rfl; exact (hF g hg).2 (by simp))
    have hLs : ∀ e ∈ A, ∀ g ∈ e.Ls, Same w w' g := fun e he g hg => hk.block g (hpl g (hin e he g hg)) (by simp only [List.mem_singleton]; rintro rfl; exact hgp (hin e he g hg))
    obtain ⟨rz, hrz⟩ := evs_to (F := F) (w := w') B 0 (fun e he => (hA0 e (hBA.mem_iff.1 he)).same (fun _ h => h) hFs (hLs e (hBA.mem_iff.1 he)))
    rw [hBR] at hrz
    have hLB : (B.flatMap EV.Ls).Perm (A.flatMap EV.Ls) := List.Perm.flatMap_right _ hBA
    have hrow2 : RD F w' (.sl true 2 (cellsO T)) (fun π => match π with | [] => .slice (some ⟨gb, o, none⟩) A.length cap | j :: p => rz (j :: p)) (.slice (some ⟨gb, o, none⟩) A.length cap) (gb :: B.flatMap EV.Ls) := by
      rw [RD]
      refine ⟨rfl, B.flatMap EV.us, [gb], B.flatMap EV.Ls, rfl, .inr ⟨gb, o, A.length, cap, _, ety, rfl, hb, by omega, h4, h5, by simp [putCells]; omega, ?_, rfl⟩, RDs.rho _ _ rz _ _ _ hrz (fun j _ => rfl)⟩
      apply List.ext_getElem?
      intro j
      rw [List.getElem?_take]
      by_cases hj : j < A.length * 2
      · rw [if_pos (by omega), List.getElem?_drop]
        simp only [putCells, Array.getElem?_toList, Array.getElem?_mapIdx]
        rw [Array.getElem?_eq_getElem (by omega), List.getElem?_eq_getElem (by omega)]
        simp [hBu, hj, show j < (B.flatMap EV.us).length by omega]
      · rw [if_neg (by omega), List.getElem?_eq_none (by omega)]
    have hrow3 := RD.solid (F' := Res true F) _ _ _ _ hrow2 (by show (true && D.solids (cellsO T)) = true; rw [solid_O]; rfl)
    refine ⟨[], [], gb :: B.flatMap EV.Ls, rfl, ⟨hk.os, hk.tape, hk.output, hk.size, fun b hb hbM => hk.block b hb (fun h => hbM (by simp only [List.mem_singleton] at h; simp [h])), hk.drawn⟩, by simp [VRs], ?_, ?_, ?_⟩
    · simp only [OutsR]
      exact ⟨_, _, _, [], _, gb :: B.flatMap EV.Ls, [], rfl, rfl, by simp, hrow3, _, _, rfl, rfl, rfl⟩
    · rw [List.nil_append, List.nodup_cons]
      exact ⟨fun h => hgp (hLB.mem_iff.1 h), hLB.nodup_iff.2 hndp⟩
    · intro g hg
      rw [List.nil_append, List.mem_cons] at hg
      rcases hg with rfl | hg
      · exact ⟨Nat.lt_of_lt_of_le hgb hk.size, .inl (by simp)⟩
      · have hg := hLB.mem_iff.1 hg
        exact ⟨Nat.lt_of_lt_of_le (hpl g hg) hk.size, .inl (by simp only [List.mem_append, List.mem_singleton, List.not_mem_nil, or_false]; exact Or.inr hg)⟩
end Go.Proofs.YtinenidbgmddhaaGreat
namespace Go.Proofs.YtinenidbgmddhaaGreat
set_option maxHeartbeats 20000000
open Go.Pv
open Go.ChangeShapes Go.WideShapes Go.ChangeAt Go.RowKit
attribute [local irreducible] RunU WpA Step CallG CallNG Done DoneN
instance fnOk29 : FnOk Tryz.prog 29 := ⟨_, Tryz.func29, rfl, by decide⟩
instance fnOk10 : FnOk Tryz.prog 10 := ⟨_, Tryz.func10, rfl, by decide⟩
instance fnOk8 : FnOk Tryz.prog 8 := ⟨_, Tryz.func8, rfl, by decide⟩
attribute [local irreducible] decStrict decFalls decIsBr decWithin Strict Falls IsBr Within IsCu
noncomputable def okY (m : Int) : Bool := match enI m with
  | some b => b.all okPB && ((b.all fun x => b.all fun y => decide (cmpC x y ≠ 0) || decide (x = y)) && (decide (b.length ≤ 1000) && (specL m).all fun r => decide (r.length ≤ 1000)))
  | none => false
theorem okY_all : (List.range 11).all (fun k => okY k) = true := by decide +kernel
theorem okW_at {m : Int} (hm : 0 ≤ m ∧ m ≤ 10) : okW m = true := by
  by_cases h9 : m = 9
  · rw [h9]; exact okW_9
  by_cases h10 : m = 10
  · rw [h10]; exact okW_10
  have h := okW_low
  rw [List.all_eq_true] at h
  have := h m.toNat (List.mem_range.2 (by omega))
  rwa [show ((m.toNat : Nat) : Int) = m by omega] at this
theorem okY_at {m : Int} (hm : 0 ≤ m ∧ m ≤ 10) : okY m = true := by
  have h := okY_all
  rw [List.all_eq_true] at h
  have := h m.toNat (List.mem_range.2 (by omega))
  rwa [show ((m.toNat : Nat) : Int) = m by omega] at this
theorem pwB_pair {α : Type} {r : α → α → Bool} : ∀ {l : List α}, pwB r l = true → l.Pairwise fun a b => r a b = true
  | [], _ => List.Pairwise.nil
  | a :: l, h => by
    rw [pwB, Bool.and_eq_true, List.all_eq_true] at h
    exact List.Pairwise.cons h.1 (pwB_pair h.2)
structure Lsts (m : Int) : Prop where
  ex : ∃ b, enI m = some b ∧ (cuL m).Perm b ∧ (∀ c ∈ b, OkP c) ∧ (∀ x ∈ b, ∀ y ∈ b, cmpC x y = 0 → x = y) ∧ b.length ≤ 1000
  sorted : (cuL m).Pairwise fun a b => 0 ≤ cmpC b a
  perm : (brK m).Perm (specL m)
  bsort : (brK m).Pairwise fun a b => 0 ≤ cmpK b a
  short : ∀ r ∈ specL m, r.length ≤ 1000
  few : (specL m).length ≤ 1000
theorem lsts_at {m : Int} (hm : 0 ≤ m ∧ m ≤ 10) : Lsts m := by
  have hW := okW_at hm
  have hX := okX_at hm
  have hY := okY_at hm
  unfold okW at hW
  unfold okX at hX
  unfold okY at hY
  cases ha : enS m with
  | none => rw [ha] at hX; simp at hX
  | some a =>
    cases hb : enI m with
    | none => rw [hb] at hY; simp at hY
    | some b =>
      rw [ha, hb] at hW
      rw [ha] at hX
      rw [hb] at hY
      have hcu : cuL m = sifS a := by unfold cuL; rw [ha]
      simp only [Bool.and_eq_true, decide_eq_true_eq] at hW hX hY
      obtain ⟨w1, w2, w3, w4⟩ := hW
      obtain ⟨_, _, x3⟩ := hX
      obtain ⟨y1, y2, y3, y4⟩ := hY
      rw [List.all_eq_true] at y1 y2 y4
      refine ⟨⟨b, hb, ?_, fun c hc => okPB_ok (y1 c hc), fun x hx y hy h0 => ?_, y3⟩, ?_, List.isPerm_iff.1 w3, ?_, fun r hr => by simpa using y4 r hr, x3⟩
      · rw [hcu]; exact List.isPerm_iff.1 w1
      · have := y2 x hx
        rw [List.all_eq_true] at this
        have := this y hy
        simp only [Bool.or_eq_true, decide_eq_true_eq] at this
        exact this.resolve_left fun h => h h0
      · rw [hcu]
        exact (pwB_pair w2).imp fun h => by simpa using h
      · exact (pwB_pair w4).imp fun h => by simpa using h
set_option maxRecDepth 100000 in
theorem allCurves_c (m : Int) (hm : 0 ≤ m ∧ m ≤ 10) : CallA Tryz.prog 29 [aI m] [.one (.sl true 2 (cellsO (cuL m)))] [] := by
  have hL := lsts_at hm
  obtain ⟨b, hb, hp, hok, hz, hbl⟩ := hL.ex
  have hB := all_c m (by omega)
  have hS := sortK_c (specL m) (brK m) (by have := hL.few; omega) hL.short hL.perm hL.bsort
  have hC := choose_c m hm (brK m) (by have := hL.few; rw [hL.perm.length_eq]; exact this) 7 [] [] 0 [] b (OkE.sqz OkE.nil) hb
  have hT := sortCu_c b (cuL m) (by omega) hok hz hp hL.sorted
  rw [show ((0 : Nat) : Int) = 0 from rfl] at hC
  change CallNH _ _ (.pt true [.lit (.int .i64 m), .sl false 1 (LLs (brK m)), .sl true 2 []]) [.mv (.one (.sl true 1 [])), aI 0] _ at hC
  have hso := solid_O (cuL m)
  clear hL hp hok hz hb
  generalize specL m = Bs at *
  generalize brK m = Ks at *
  generalize cuL m = R at *
  refine callA_of _ Tryz.func29 rfl Tryz.ntmps29 ⟨by show ((true && D.solids (cellsO R)) && true) = true; rw [hso]; rfl, rfl⟩ ?_
  repeat' (first | refine Two.mk (fun _ => ?_) (fun _ => ?_) | (guard_target =~ IsW; first | refine WpA.freezeIn1C 11 3 (.sl false 1 (LLs Ks)) rfl rfl rfl (by show D.sl false 1 (D.erases (LL Ks)) = _; rw [erases_LL]) ?_) | (guard_target =~ AtN 10; first | refine RunU.cons (step_call_io0 (hS) io_any (.sh .nil) (.sh shows_any .nil) (by exact rfl) (by exact rfl) rfl) ?_) | (guard_target =~ AtN 11; first | refine RunU.consX (step_callNH (hC) io_any (.mv give_any (.sh .nil)) (.mv (.sh (by first | exact .lit rfl rfl | exact .c rfl) .nil)) (by exact rfl) rfl rfl rfl) ?_) | (guard_target =~ AtN 14; first | refine RunU.cons (step_call_io0 (hT) io_any (.sh .nil) (.sh shows_any .nil) (by exact rfl) (by exact rfl) rfl) ?_) | (guard_target =~ CallN_; first | refine RunU.cons (step_call (hB) (.sh .nil) (.sh shows_any .nil) rfl) ?_) | refine goA ?_ | (refine neA ?_; first | refine nxA ?_ | refine Done.ret (.one res_any .nil) (.sh .nil) ?_ rfl) | fail)
  all_goals first | rfl | (exfalso; omega)
end Go.Proofs.YtinenidbgmddhaaGreat
