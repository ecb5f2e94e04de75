/- What a branch is: the program's test and the reference's are the same. No condition. -/
import Derived.Test.YtohhkbbjdjibgaaFPvV
import Derived.Test.YtohhkbbjdjibgaaFTy
set_option linter.unusedVariables false
set_option linter.unusedSimpArgs false
namespace Go.Pv
open Go.RowKit
section
variable {P : Program} {n : NN} {nid : Nat} {st : Nat → AV} {f : Fr} {X : Nat → Prop} {a : Act} {w : World} {ρ : Nat → Rho} {L : Nat → List Nat} {M : List Nat}
theorem res_slot {F : Nat → Prop} {w : World} {rs : List V} {us : List Value} {Lr : List Nat} {nid : Nat} (ρ : Nat → Rho) (hv : VRs F w rs us Lr) :
  ∃ ρ2 : Nat → Rho, (∀ i, i ≠ nid → ρ2 i = ρ i) ∧ SR F w ρ2 (resAV nid rs) (retVal us) Lr ∧ ∀ i ∈ (resAV nid rs).ids, i = nid := by
 have root : ∀ d, (resAV nid [V.one d] = .own nid d) → ∀ u r L1, RD F w d r u L1 → ∃ ρ2 : Nat → Rho, (∀ i, i ≠ nid → ρ2 i = ρ i) ∧ SR F w ρ2 (resAV nid [V.one d]) u L1 ∧ ∀ i ∈ (resAV nid [V.one d]).ids, i = nid := by
  intro d e u r L1 h
  refine ⟨fun i => if i = nid then r else ρ i, fun i hi => if_neg hi, ?_, fun i hi => ?_⟩
  ·rw [e]; simp only [SR, if_true]; exact h
  ·rw [e] at hi; simpa [AV.ids] using hi
 have hl := hv.length
 match rs, hv, hl with
 | [], hv, hl =>
  simp only [VRs] at hv
  obtain ⟨rfl, rfl⟩ := hv
  exact ⟨ρ, fun _ _ => rfl, by simp only [resAV, SR], fun i hi => by simp [resAV, AV.ids] at hi⟩
 | [.one (.lit u)], hv, hl =>
  simp only [VRs] at hv
  obtain ⟨u', us', L1, L2, rfl, rfl, ⟨r, h1⟩, rfl, rfl⟩ := hv
  simp only [RD] at h1
  obtain ⟨rfl, h2, rfl⟩ := h1
  exact ⟨ρ, fun _ _ => rfl, by simp only [resAV, SR, RD, retVal]; exact ⟨rfl, fun _ => undef, trivial, h2, trivial⟩, fun i hi => by simp [resAV, AV.ids] at hi⟩
 | [.one (.sl o sz cs)], hv, hl =>
  simp only [VRs] at hv
  obtain ⟨u', us', L1, L2, rfl, rfl, ⟨r, h1⟩, rfl, rfl⟩ := hv
  rw [List.append_nil]
  exact root _ rfl _ r _ h1
 | [.one (.pt o cs)], hv, hl =>
  simp only [VRs] at hv
  obtain ⟨u', us', L1, L2, rfl, rfl, ⟨r, h1⟩, rfl, rfl⟩ := hv
  rw [List.append_nil]
  exact root _ rfl _ r _ h1
 | [.one .hole], hv, hl =>
  simp only [VRs] at hv
  obtain ⟨u', us', L1, L2, rfl, rfl, ⟨r, h1⟩, rfl, rfl⟩ := hv
  rw [List.append_nil]
  exact root _ rfl _ r _ h1
 | [.one (.fn g cs)], hv, hl =>
  simp only [VRs] at hv
  obtain ⟨u', us', L1, L2, rfl, rfl, ⟨r, h1⟩, rfl, rfl⟩ := hv
  rw [List.append_nil]
  exact root _ rfl _ r _ h1
 | [.agg ds], hv, hl =>
  simp only [VRs] at hv
  obtain ⟨u', us', L1, L2, rfl, rfl, h1, rfl, rfl⟩ := hv
  refine ⟨ρ, fun _ _ => rfl, ?_, fun i hi => by simp only [resAV, AV.ids, idss_raws] at hi; simp at hi⟩
  have := SR_av (ρ := ρ) h1
  simpa [V.av, retVal, resAV] using this
 | v1 :: v2 :: vs, hv, hl =>
  have e : resAV nid (v1 :: v2 :: vs) = .tup ((v1 :: v2 :: vs).map V.av) := rfl
  rw [e]
  refine ⟨ρ, fun _ _ => rfl, ?_, fun i hi => by simp only [AV.ids, idss_avs] at hi; simp at hi⟩
  simp only [SR]
  refine ⟨us, ?_, SRs_avs _ us Lr hv⟩
  match us, hl with
  | [u], hl => simp at hl
  | [], hl => simp at hl
  | u1 :: u2 :: us', _ => rfl
theorem sV_ {d0 : Nat} {K : FuncId} {x : Operand} {xs : List Operand} {ts : Array TypeId} {args : List Arg} {rs : List V} {d d' dd : D} {xr id : Nat} {path rd rd1 rd2 : List Nat} {up : List (Nat × AV)} {ty pos aft g} [FnOk P K]
  (hc : CallNS P K d args rs d') (hi : IoAt st x xr id path dd d rd) (hm : Moves (put st xr (.own id (dd.put path .hole))) xs args rd1 up) (hr : ReadsF (puts (put st xr (.own id (dd.put path .hole))) up) xs args rd2)
  (hx : puts (put st xr (.own id (dd.put path .hole))) up xr = .own id (dd.put path .hole)) (hne : (d0 == xr) = false) (hd : n d0 = true) :
  Step P n ⟨some d0, .call ⟨.value (.func K), (x :: xs).toArray, ts⟩, ty, pos, aft, g⟩ nid st (rd ++ (rd1 ++ rd2)) ((xr, .own id (dd.put path .hole)) :: (up ++ [(d0, resAV nid rs), (xr, .own id (dd.put path d'))])) := by
 intro X st' hs hX f a w hn hrep Kk Q hK
 obtain ⟨ρ, L, h⟩ := hrep
 subst hn
 have hne : d0 ≠ xr := by simpa using hne
 have hi' := hi.agree (st' := st') fun s hs' => hs s (List.mem_append_left _ hs')
 have ag : ∀ s, st' s = st s → put st' xr (.own id (dd.put path .hole)) s = put st xr (.own id (dd.put path .hole)) s := fun s e => by unfold put; split <;> simp_all
 have hm' := hm.agree (st' := put st' xr (.own id (dd.put path .hole))) fun s hs' => ag s (hs s (by simp [hs']))
 have hidX : X id := by
  have := h.ids xr
  rw [hi'.own.1] at this
  exact this id (by simp [AV.ids])
 obtain ⟨L0, M0, h0, hv0⟩ := h.toM.lendN hi'
 obtain ⟨L', M1, h1, h2⟩ := h0.moves hm'
 simp only [puts] at hK
 rw [puts_append] at hK
 rw [List.nil_append] at h1
 have hr' := hr.agree (st' := puts (put st' xr (.own id (dd.put path .hole))) up) fun s hs' => puts_agree _ _ (ag s (hs s (by simp [hs'])))
 have h3 := args_ofF h1 h2 hr'
 have hx' : puts (put st' xr (.own id (dd.put path .hole))) up xr = .own id (dd.put path .hole) := by
  exact (puts_agree up xr (by simp [put])).trans hx
 refine wp_of_enter (run_call a.eval rfl w) ?_
 have e : (x :: xs).toArray.map a.eval = (a.eval x :: xs.map a.eval).toArray := by simp
 rw [e]
 refine (hc w _ _ M0 M1 f.F ((ρ id).sub path) (fun g hg => ⟨h1.rep.F_lt hg, fun hm => (h1.bound g hm).2 hg⟩) hv0 h3 h1.nd (fun g hg => (h1.bound g hg).1)).mono ?_
 rintro e w' ⟨us, Lr, Lo, rfl, hk, hv, hout, hnd, hL⟩
 have hv := hv.same (F' := f.F) (fun g (hg : Res false f.F g) => hg.2) (fun _ _ => rfl) (fun _ _ => rfl)
 obtain ⟨ρ2, q1, q2, q3⟩ := res_slot (nid := nid) ρ hv
 rw [List.nodup_append] at hnd
 obtain ⟨ndr, ndo, dro⟩ := hnd
 have hidn : id ≠ nid := fun e => hX (e ▸ hidX)
 refine ⟨_, rfl, ?_⟩
 have hxs := h1.rep.slots xr
 rw [hx'] at hxs
 simp only [SR] at hxs
 have hnav := nav_put path dd d .hole hi.own.2.1
 obtain ⟨v1, A, L1, B, eL, h5, hset⟩ := RD.focus path _ _ _ _ hxs .hole hnav
 simp only [RD] at h5
 obtain ⟨hv1, _, rfl⟩ := h5
 have hev : a.eval x = v1 := by rw [hv1, Rho.sub_nil]; exact hi'.eval h
 rw [hev] at hout
 have hFs : ∀ g, f.F g → Same w w' g := fun g hg => hk.block g (h1.rep.F_lt hg) (fun hm => (h1.bound g hm).2 hg)
 have hLx : ∀ t, ∀ g ∈ L' t, Same w w' g := fun t g hg => hk.block g (h1.rep.bound t g hg).1 (h1.disj t g hg)
 have hfin := hset w' d' ((ρ id).sub path) Lo hFs (fun g hg => hLx xr g (by rw [eL]; rcases hg with hg | hg <;> simp [hg])) (RD.same (fun g (hg : Res false f.F g) => hg.2) (fun _ _ => rfl) d' _ _ Lo hout (fun _ _ => rfl))
 rw [put_put path dd d .hole d' hi.own.2.1, Rho.set_sub] at hfin
 refine hK _ _ ⟨ρ2, fun s => if s = xr then A ++ (Lo ++ B) else if s = d0 then Lr else L' s, ?_⟩
 have hL0 : ∀ g ∈ Lo, g ∉ L' xr := fun g hg hg' => by
  rcases (hL g (by simp [hg])).2 with h | h
  ·exact h1.disj xr g hg' h
  ·have := (h1.rep.bound xr g hg').1; omega
 have hndx := h1.rep.nodup xr
 rw [eL] at hndx
 have hst : ∀ s, s ≠ xr → s ≠ d0 → puts (puts (put st' xr (.own id (dd.put path .hole))) up) [(d0, resAV nid rs), (xr, .own id (dd.put path d'))] s = puts (put st' xr (.own id (dd.put path .hole))) up s := fun s h1 h2 => by
  simp only [puts]; rw [put_other _ _ _ _ h1, put_other _ _ _ _ h2]
 refine h1.step (fun s => s = xr ∨ s = d0) (M0 ++ M1) _ _ _ w' _ _ (put_defers _ _ _) (put_size _ _ _) (hold_put _ hd) hk (fun g hg => .inr hg) (fun i hi => q1 i (fun e => hX (e ▸ hi))) (fun s hs' => ?_) (fun s hs' => ?_) (fun s u hs' hu hsu g hg hgu => ?_) (fun _ h => .inl h) (fun s hs' i hi => ?_)
 ·simp only [not_or] at hs'
  exact ⟨hst s hs'.1 hs'.2, tmp_put_other _ _ _ _ hs'.2, by simp [hs'.1, hs'.2]⟩
 ·by_cases hsx : s = xr
  ·subst hsx
   rw [if_pos rfl, tmp_put_other _ _ _ _ (Ne.symm hne)]
   simp only [puts, put_same, SR]
   rw [q1 id hidn]
   refine ⟨hfin, ?_, fun g hg => ?_⟩
   ·have hd2 : ∀ g ∈ Lo, g ∉ A ∧ g ∉ B := fun g hg => by
     have := hL0 g hg
     rw [eL] at this
     simp only [List.mem_append, not_or] at this
     exact ⟨this.1, this.2.2⟩
    simp only [List.nodup_append, List.mem_append] at hndx ⊢
    grind
   ·simp only [List.mem_append] at hg
    rcases hg with hg | hg | hg
    ·have : g ∈ L' s := by rw [eL]; simp [hg]
     exact ⟨Nat.lt_of_lt_of_le (h1.rep.bound s g this).1 hk.size, .inl ⟨s, .inl rfl, this⟩⟩
    ·exact ⟨(hL g (by simp [hg])).1, .inr (hL g (by simp [hg])).2⟩
    ·have : g ∈ L' s := by rw [eL]; simp [hg]
     exact ⟨Nat.lt_of_lt_of_le (h1.rep.bound s g this).1 hk.size, .inl ⟨s, .inl rfl, this⟩⟩
  ·have hs0 : s = d0 := hs'.resolve_left hsx
   subst hs0
   rw [if_neg hsx, if_pos rfl, tmp_put_same _ _ _ (h1.rep.size _ hd)]
   simp only [puts]
   rw [put_other _ _ _ _ hsx, put_same]
   exact ⟨q2, ndr, fun g hg => ⟨(hL g (by simp [hg])).1, .inr (hL g (by simp [hg])).2⟩⟩
 ·have hLrB : ∀ t, t = xr → ∀ g ∈ A ++ (Lo ++ B), g ∉ Lr := fun t et g hg hgr => by
   simp only [List.mem_append] at hg
   have old : g ∈ L' xr → False := fun hx => by
    rcases (hL g (by simp [hgr])).2 with h | h
    ·exact h1.disj xr g hx h
    ·have := (h1.rep.bound xr g hx).1; omega
   rcases hg with hg | hg | hg
   ·exact old (by rw [eL]; simp [hg])
   ·exact dro g hgr g hg rfl
   ·exact old (by rw [eL]; simp [hg])
  by_cases hsx : s = xr
  ·have hu0 : u ≠ xr := fun e => hsu (hsx.trans e.symm)
   have hu' : u = d0 := hu.resolve_left hu0
   rw [if_neg hu0, if_pos hu'] at hgu
   rw [if_pos hsx] at hg
   exact hLrB s hsx g hg hgu
  ·have hs0 : s = d0 := hs'.resolve_left hsx
   rw [if_neg hsx, if_pos hs0] at hg
   have hux : u = xr := hu.resolve_right fun e => hsu (hs0.trans e.symm)
   rw [if_pos hux] at hgu
   exact hLrB u hux g hgu hg
 ·by_cases hsx : s = xr
  ·subst hsx
   simp only [puts, put_same, AV.ids, List.mem_singleton] at hi
   exact .inl (by rw [hi]; exact hidX)
  ·have hs0 : s = d0 := hs'.resolve_left hsx
   subst hs0
   simp only [puts] at hi
   rw [put_other _ _ _ _ hsx, put_same] at hi
   exact .inr (q3 i hi)
end
end Go.Pv
namespace Go.Proofs.Ytohhkbbjdjibgaa
set_option maxHeartbeats 20000000
open Go.Pv
open Go.ChangeShapes Go.WideShapes Go.ChangeAt Go.RowKit
attribute [local irreducible] RunU WpA Step CallG CallNG Done DoneN
instance fnOk47 : FnOk Try.prog 47 := ⟨_, Try.func47, rfl, by decide⟩
instance fnOk42 : FnOk Try.prog 42 := ⟨_, Try.func42, rfl, by decide⟩
instance fnOk60 : FnOk Try.prog 60 := ⟨_, Try.func60, rfl, by decide⟩
theorem loop_slots3 {α β : Type} {P : Program} {n : NN} {st : Nat → AV} {c : Code} {nx : Nat} {Q : Exit → (Nat → AV) → Nat → Prop} (slots : α → β → List (Nat × AV)) (C : α → β → Prop) (μ : α → β → Nat) (i0 : α) (k0 : β) (hC : C i0 k0) (h0 : Has st (slots i0 k0))
  (round : ∀ i k s nx, C i k → WpA P n c (puts s (slots i k)) nx (Then (fun s' _ => ∃ i' k', C i' k' ∧ Has s' (slots i' k') ∧ μ i' k' < μ i k) Q)) : WpA P n (.loop c) st nx Q :=
 WpA.loop_slots (ι := α × β) (fun p => slots p.1 p.2) (fun p => C p.1 p.2) (fun p => μ p.1 p.2) (i0, k0) hC h0 fun p s k hp =>
  (round p.1 p.2 s k hp).mono fun e s' k' q => by
   cases e with
   | normal => obtain ⟨i', j', q1, q2, q3⟩ := q; exact ⟨(i', j'), q1, q2, q3⟩
   | _ => exact q
theorem gcd_step {x y g : Nat} (h : Nat.gcd x y = g) : Nat.gcd y (x % y) = g := by
 rw [← h, Nat.gcd_comm y (x % y), ← Nat.gcd_rec, Nat.gcd_comm]
theorem abs_c (a : Int) (h : -4611686018427387904 ≤ a ∧ a ≤ 4611686018427387904) : CallA Try.prog 60 [aI a] [rI (a.natAbs : Int)] [] := by
 refine cA_ _ Try.func60 rfl Try.ntmps60 (by first | exact ⟨rfl, rfl⟩ | (simp only [List.all_cons, List.all_nil, V.solid, D.solid, D.solids, solids_ints, solids_bools, solids_LL, Bool.and_self, Bool.and_true, and_self]; done) | simp [V.solid, D.solid, D.solids, solids_lits, solids_ints, solids_bools, solids_LL]) ?_
 repeat' (first | (guard_target =~ WpA _ _ _ _ _ _; first | refine WpA.seq ?_ | refine WpA.drawU ?_ | refine WpA.regionU ?_ | refine WpA.block ?_ | refine WpA.ret ?_ | refine WpA.skip ?_ | refine WpA.exit ?_ | refine WpA.cond_true rfl ?_ | refine WpA.cond_false rfl ?_ | refine WpA.cond_ntrue rfl ?_ | refine WpA.cond_dec rfl (fun _ => ?_) (fun _ => ?_) | refine WpA.cond_not rfl (fun _ => ?_) (fun _ => ?_) | refine WpA.cond rfl (fun _ => ?_) (fun _ => ?_)) | (guard_target =~ RunU _ _ _ _ [] _ _ _ _; first | refine RunU.nilL ?_ | refine RunU.nilD (by kernel_rfl) ?_) | (guard_target =~ RunU _ _ _ _ (Oper.mk _ _ _ _ _ none :: _) _ _ _ _; refine RunU.cons step_any ?_) | refine Then.next ?_ | refine InBlock.next ?_ | refine Done.ret (.one (by first | exact .c rfl | exact .own rfl | exact .als rfl rfl | exact .ptr rfl rfl | exact .part rfl rfl rfl) .nil) (.sh .nil) ?_ rfl)
 case refine_1 h1 => rw [show ((a.natAbs : Nat) : Int) = -a by omega]
 case refine_2 h1 => rw [show ((a.natAbs : Nat) : Int) = a by omega]
theorem gcd_c (a b : Int) (ha : -4611686018427387904 ≤ a ∧ a ≤ 4611686018427387904) (hb : -4611686018427387904 ≤ b ∧ b ≤ 4611686018427387904) : CallA Try.prog 47 [aI a, aI b] [rI (Int.gcd a b : Int)] [] := by
 refine cA_ _ Try.func47 rfl Try.ntmps47 (by first | exact ⟨rfl, rfl⟩ | (simp only [List.all_cons, List.all_nil, V.solid, D.solid, D.solids, solids_ints, solids_bools, solids_LL, Bool.and_self, Bool.and_true, and_self]; done) | simp [V.solid, D.solid, D.solids, solids_lits, solids_ints, solids_bools, solids_LL]) ?_
 repeat' (first | (guard_target =~ WpA _ _ _ _ _ _; first | refine WpA.seq ?_ | refine WpA.drawU ?_ | refine WpA.regionU ?_ | refine WpA.block ?_ | refine WpA.ret ?_ | refine WpA.skip ?_ | refine WpA.exit ?_ | refine WpA.cond_true rfl ?_ | refine WpA.cond_false rfl ?_ | refine WpA.cond_ntrue rfl ?_ | refine WpA.cond_dec rfl (fun _ => ?_) (fun _ => ?_) | refine WpA.cond_not rfl (fun _ => ?_) (fun _ => ?_) | refine WpA.cond rfl (fun _ => ?_) (fun _ => ?_)) | (guard_target =~ RunU _ _ _ _ [] _ _ _ _; first | refine RunU.nilL ?_ | refine RunU.nilD (by kernel_rfl) ?_) | (guard_target =~ RunU _ _ _ _ (Oper.mk _ _ _ _ _ none :: _) _ _ _ _; refine RunU.cons step_any ?_) | refine Then.next ?_ | refine InBlock.next ?_ | refine Done.ret (.one (by first | exact .c rfl | exact .own rfl | exact .als rfl rfl | exact .ptr rfl rfl | exact .part rfl rfl rfl) .nil) (.sh (.sh .nil)) ?_ rfl)
 all_goals refine loop_slots3 (fun (x y : Nat) => [(0, .c (.lit (.int .i64 (x : Int)))), (1, .c (.lit (.int .i64 (y : Int))))]) (fun x y => Nat.gcd x y = Int.gcd a b ∧ x ≤ 4611686018427387904 ∧ y ≤ 4611686018427387904) (fun _ y => y) a.natAbs b.natAbs ⟨rfl, by omega, by omega⟩ ⟨int_eq (by omega), int_eq (by omega), trivial⟩ ?_
 all_goals intro x y s nx hj
 all_goals obtain ⟨hg, hx, hy⟩ := hj
 ·repeat' (first | (guard_target =~ WpA _ _ _ _ _ _; first | refine WpA.seq ?_ | refine WpA.drawU ?_ | refine WpA.regionU ?_ | refine WpA.block ?_ | refine WpA.ret ?_ | refine WpA.skip ?_ | refine WpA.exit ?_ | refine WpA.cond_true rfl ?_ | refine WpA.cond_false rfl ?_ | refine WpA.cond_ntrue rfl ?_ | refine WpA.cond_dec rfl (fun _ => ?_) (fun _ => ?_) | refine WpA.cond_not rfl (fun _ => ?_) (fun _ => ?_) | refine WpA.cond rfl (fun _ => ?_) (fun _ => ?_)) | (guard_target =~ RunU _ _ _ _ [] _ _ _ _; first | refine RunU.nilL ?_ | refine RunU.nilD (by kernel_rfl) ?_) | (guard_target =~ RunU _ _ _ _ (Oper.mk _ _ _ _ _ none :: _) _ _ _ _; refine RunU.cons step_any ?_) | refine Then.next ?_ | refine InBlock.next ?_ | refine Done.ret (.one (by first | exact .c rfl | exact .own rfl | exact .als rfl rfl | exact .ptr rfl rfl | exact .part rfl rfl rfl) .nil) (.sh (.sh .nil)) ?_ rfl)
  case refine_1 h3 => exact ⟨y, x % y, ⟨gcd_step hg, hy, by have := Nat.mod_lt x (show 0 < y by omega); omega⟩, ⟨rfl, int_eq (Int.natCast_emod x y).symm, trivial⟩, Nat.mod_lt x (by omega)⟩
  case refine_2 h3 => rw [← hg, show y = 0 by omega, Nat.gcd_zero_right]
 ·repeat' (first | (guard_target =~ WpA _ _ _ _ _ _; first | refine WpA.seq ?_ | refine WpA.drawU ?_ | refine WpA.regionU ?_ | refine WpA.block ?_ | refine WpA.ret ?_ | refine WpA.skip ?_ | refine WpA.exit ?_ | refine WpA.cond_true rfl ?_ | refine WpA.cond_false rfl ?_ | refine WpA.cond_ntrue rfl ?_ | refine WpA.cond_dec rfl (fun _ => ?_) (fun _ => ?_) | refine WpA.cond_not rfl (fun _ => ?_) (fun _ => ?_) | refine WpA.cond rfl (fun _ => ?_) (fun _ => ?_)) | (guard_target =~ RunU _ _ _ _ [] _ _ _ _; first | refine RunU.nilL ?_ | refine RunU.nilD (by kernel_rfl) ?_) | (guard_target =~ RunU _ _ _ _ (Oper.mk _ _ _ _ _ none :: _) _ _ _ _; refine RunU.cons step_any ?_) | refine Then.next ?_ | refine InBlock.next ?_ | refine Done.ret (.one (by first | exact .c rfl | exact .own rfl | exact .als rfl rfl | exact .ptr rfl rfl | exact .part rfl rfl rfl) .nil) (.sh (.sh .nil)) ?_ rfl)
  case refine_1 h3 => exact ⟨y, x % y, ⟨gcd_step hg, hy, by have := Nat.mod_lt x (show 0 < y by omega); omega⟩, ⟨rfl, int_eq (Int.natCast_emod x y).symm, trivial⟩, Nat.mod_lt x (by omega)⟩
  case refine_2 h3 => rw [← hg, show y = 0 by omega, Nat.gcd_zero_right]
 ·repeat' (first | (guard_target =~ WpA _ _ _ _ _ _; first | refine WpA.seq ?_ | refine WpA.drawU ?_ | refine WpA.regionU ?_ | refine WpA.block ?_ | refine WpA.ret ?_ | refine WpA.skip ?_ | refine WpA.exit ?_ | refine WpA.cond_true rfl ?_ | refine WpA.cond_false rfl ?_ | refine WpA.cond_ntrue rfl ?_ | refine WpA.cond_dec rfl (fun _ => ?_) (fun _ => ?_) | refine WpA.cond_not rfl (fun _ => ?_) (fun _ => ?_) | refine WpA.cond rfl (fun _ => ?_) (fun _ => ?_)) | (guard_target =~ RunU _ _ _ _ [] _ _ _ _; first | refine RunU.nilL ?_ | refine RunU.nilD (by kernel_rfl) ?_) | (guard_target =~ RunU _ _ _ _ (Oper.mk _ _ _ _ _ none :: _) _ _ _ _; refine RunU.cons step_any ?_) | refine Then.next ?_ | refine InBlock.next ?_ | refine Done.ret (.one (by first | exact .c rfl | exact .own rfl | exact .als rfl rfl | exact .ptr rfl rfl | exact .part rfl rfl rfl) .nil) (.sh (.sh .nil)) ?_ rfl)
  case refine_1 h3 => exact ⟨y, x % y, ⟨gcd_step hg, hy, by have := Nat.mod_lt x (show 0 < y by omega); omega⟩, ⟨rfl, int_eq (Int.natCast_emod x y).symm, trivial⟩, Nat.mod_lt x (by omega)⟩
  case refine_2 h3 => rw [← hg, show y = 0 by omega, Nat.gcd_zero_right]
 ·repeat' (first | (guard_target =~ WpA _ _ _ _ _ _; first | refine WpA.seq ?_ | refine WpA.drawU ?_ | refine WpA.regionU ?_ | refine WpA.block ?_ | refine WpA.ret ?_ | refine WpA.skip ?_ | refine WpA.exit ?_ | refine WpA.cond_true rfl ?_ | refine WpA.cond_false rfl ?_ | refine WpA.cond_ntrue rfl ?_ | refine WpA.cond_dec rfl (fun _ => ?_) (fun _ => ?_) | refine WpA.cond_not rfl (fun _ => ?_) (fun _ => ?_) | refine WpA.cond rfl (fun _ => ?_) (fun _ => ?_)) | (guard_target =~ RunU _ _ _ _ [] _ _ _ _; first | refine RunU.nilL ?_ | refine RunU.nilD (by kernel_rfl) ?_) | (guard_target =~ RunU _ _ _ _ (Oper.mk _ _ _ _ _ none :: _) _ _ _ _; refine RunU.cons step_any ?_) | refine Then.next ?_ | refine InBlock.next ?_ | refine Done.ret (.one (by first | exact .c rfl | exact .own rfl | exact .als rfl rfl | exact .ptr rfl rfl | exact .part rfl rfl rfl) .nil) (.sh (.sh .nil)) ?_ rfl)
  case refine_1 h3 => exact ⟨y, x % y, ⟨gcd_step hg, hy, by have := Nat.mod_lt x (show 0 < y by omega); omega⟩, ⟨rfl, int_eq (Int.natCast_emod x y).symm, trivial⟩, Nat.mod_lt x (by omega)⟩
  case refine_2 h3 => rw [← hg, show y = 0 by omega, Nat.gcd_zero_right]
theorem divisor_c (a b : Int) (ha : -4611686018427387904 ≤ a ∧ a ≤ 4611686018427387904) (hb : -4611686018427387904 ≤ b ∧ b ≤ 4611686018427387904) : CallA Try.prog 42 [aI a, aI b] [rI (Int.gcd a b : Int)] [] := by
 refine cA_ _ Try.func42 rfl Try.ntmps42 (by first | exact ⟨rfl, rfl⟩ | (simp only [List.all_cons, List.all_nil, V.solid, D.solid, D.solids, solids_ints, solids_bools, solids_LL, Bool.and_self, Bool.and_true, and_self]; done) | simp [V.solid, D.solid, D.solids, solids_lits, solids_ints, solids_bools, solids_LL]) ?_
 repeat' (first | (guard_target =~ WpA _ _ _ _ _ _; first | refine WpA.seq ?_ | refine WpA.drawU ?_ | refine WpA.regionU ?_ | refine WpA.block ?_ | refine WpA.ret ?_ | refine WpA.skip ?_ | refine WpA.exit ?_ | refine WpA.cond_true rfl ?_ | refine WpA.cond_false rfl ?_ | refine WpA.cond_ntrue rfl ?_ | refine WpA.cond_dec rfl (fun _ => ?_) (fun _ => ?_) | refine WpA.cond_not rfl (fun _ => ?_) (fun _ => ?_) | refine WpA.cond rfl (fun _ => ?_) (fun _ => ?_)) | (guard_target =~ RunU _ _ _ _ [] _ _ _ _; first | refine RunU.nilL ?_ | refine RunU.nilD (by kernel_rfl) ?_) | (guard_target =~ RunU _ _ _ _ (Oper.mk _ (Op.call ⟨Callee.value _, _, _⟩) _ _ _ none :: _) _ _ _ _; first | refine RunU.cons (sC_ (abs_c a ha) (.sh .nil) (.sh wS_ .nil) rfl) ?_ | refine RunU.cons (sC_ (abs_c b hb) (.sh .nil) (.sh wS_ .nil) rfl) ?_) | (guard_target =~ RunU _ _ _ _ (Oper.mk _ _ _ _ _ none :: _) _ _ _ _; refine RunU.cons step_any ?_) | refine Then.next ?_ | refine InBlock.next ?_ | refine Done.ret (.one (by first | exact .c rfl | exact .own rfl | exact .als rfl rfl | exact .ptr rfl rfl | exact .part rfl rfl rfl) .nil) (.sh (.sh .nil)) ?_ rfl)
 refine loop_slots3 (fun (x y : Nat) => [(0, .c (.lit (.int .i64 (x : Int)))), (1, .c (.lit (.int .i64 (y : Int))))]) (fun x y => Nat.gcd x y = Int.gcd a b ∧ x ≤ 4611686018427387904 ∧ y ≤ 4611686018427387904) (fun _ y => y) a.natAbs b.natAbs ⟨rfl, by omega, by omega⟩ ⟨rfl, rfl, trivial⟩ ?_
 intro x y s nx hj
 obtain ⟨hg, hx, hy⟩ := hj
 repeat' (first | (guard_target =~ WpA _ _ _ _ _ _; first | refine WpA.seq ?_ | refine WpA.drawU ?_ | refine WpA.regionU ?_ | refine WpA.block ?_ | refine WpA.ret ?_ | refine WpA.skip ?_ | refine WpA.exit ?_ | refine WpA.cond_true rfl ?_ | refine WpA.cond_false rfl ?_ | refine WpA.cond_ntrue rfl ?_ | refine WpA.cond_dec rfl (fun _ => ?_) (fun _ => ?_) | refine WpA.cond_not rfl (fun _ => ?_) (fun _ => ?_) | refine WpA.cond rfl (fun _ => ?_) (fun _ => ?_)) | (guard_target =~ RunU _ _ _ _ [] _ _ _ _; first | refine RunU.nilL ?_ | refine RunU.nilD (by kernel_rfl) ?_) | (guard_target =~ RunU _ _ _ _ (Oper.mk _ _ _ _ _ none :: _) _ _ _ _; refine RunU.cons step_any ?_) | refine Then.next ?_ | refine InBlock.next ?_ | refine Done.ret (.one (by first | exact .c rfl | exact .own rfl | exact .als rfl rfl | exact .ptr rfl rfl | exact .part rfl rfl rfl) .nil) (.sh (.sh .nil)) ?_ rfl)
 case refine_1 h3 => exact ⟨y, x % y, ⟨gcd_step hg, hy, by have := Nat.mod_lt x (show 0 < y by omega); omega⟩, ⟨rfl, int_eq (Int.natCast_emod x y).symm, trivial⟩, Nat.mod_lt x (by omega)⟩
 case refine_2 h3 => rw [← hg, show y = 0 by omega, Nat.gcd_zero_right]
instance fnOk35 : FnOk Try.prog 35 := ⟨_, Try.func35, rfl, by decide⟩
def divTo (l : List Int) : Nat → Int
 | 0 => 0
 | j + 1 => (Int.gcd (divTo l j) (l.getD j 0) : Int)
def divs (l : List Int) : Nat → List Int
 | 0 => []
 | j + 1 => divs l j ++ [divTo l (j + 1)]
theorem divs_len (l : List Int) : ∀ j, (divs l j).length = j
 | 0 => rfl
 | j + 1 => by simp [divs, divs_len l j]
theorem divTo_bound {l : List Int} (h : ∀ i, 0 ≤ l.getD i 0 ∧ l.getD i 0 ≤ 1000000000) : ∀ j, 0 ≤ divTo l j ∧ divTo l j ≤ 1000000000
 | 0 => by simp [divTo]
 | j + 1 => by
  have h1 := divTo_bound h j
  have h2 := h j
  simp only [divTo]
  refine ⟨by omega, ?_⟩
  by_cases h0 : l.getD j 0 = 0
  ·rw [h0, Int.gcd_zero_right]; omega
  ·have := Int.gcd_le_right (a := divTo l j) (show 0 < l.getD j 0 by omega)
   omega
theorem divisors_c (l : List Int) (hl : l.length ≤ 1000000000) (hb : ∀ i, 0 ≤ l.getD i 0 ∧ l.getD i 0 ≤ 1000000000) : CallA Try.prog 35 [aL l] [rL (divs l l.length)] [] := by
 refine cA_ _ Try.func35 rfl Try.ntmps35 (by first | exact ⟨rfl, rfl⟩ | (simp only [List.all_cons, List.all_nil, V.solid, D.solid, D.solids, solids_ints, solids_bools, solids_LL, Bool.and_self, Bool.and_true, and_self]; done) | simp [V.solid, D.solid, D.solids, solids_lits, solids_ints, solids_bools, solids_LL]) ?_
 repeat' (first | (guard_target =~ WpA _ _ _ _ _ _; first | refine WpA.seq ?_ | refine WpA.drawU ?_ | refine WpA.regionU ?_ | refine WpA.block ?_ | refine WpA.ret ?_ | refine WpA.skip ?_ | refine WpA.exit ?_ | refine WpA.cond_true rfl ?_ | refine WpA.cond_false rfl ?_ | refine WpA.cond_ntrue rfl ?_ | refine WpA.cond_dec rfl (fun _ => ?_) (fun _ => ?_) | refine WpA.cond_not rfl (fun _ => ?_) (fun _ => ?_) | refine WpA.cond rfl (fun _ => ?_) (fun _ => ?_)) | (guard_target =~ RunU _ _ _ _ [] _ _ _ _; first | refine RunU.nilL ?_ | refine RunU.nilD (by kernel_rfl) ?_) | (guard_target =~ RunU _ _ _ _ (Oper.mk _ _ _ _ _ none :: _) _ _ _ _; refine RunU.cons step_any ?_) | refine Then.next ?_ | refine InBlock.next ?_ | refine Done.ret (.one (by first | exact .c rfl | exact .own rfl | exact .als rfl rfl | exact .ptr rfl rfl | exact .part rfl rfl rfl) .nil) (.sh .nil) ?_ rfl)
 refine WpA.loop_slots2 (fun j id => [(8, .c (.sl false 1 (ints l))), (9, .c (.lit (.int .i64 l.length))), (3, .own id (.sl true 1 (ints (divs l j)))), (4, .c (.lit (.int .i64 (divTo l j)))), (10, .c (.lit (.int .i64 (j : Int))))]) (fun j => j ≤ l.length) (fun j => l.length - j) 0 3 (by simp) ⟨rfl, rfl, rfl, rfl, rfl, trivial⟩ ?_
 intro j id s nx hj
 have h1 := divTo_bound hb j
 have h2 := hb (j * 1)
 have h3 := divs_len l j
 repeat' (first | (guard_target =~ WpA _ _ _ _ _ _; first | refine WpA.seq ?_ | refine WpA.drawU ?_ | refine WpA.regionU ?_ | refine WpA.block ?_ | refine WpA.ret ?_ | refine WpA.skip ?_ | refine WpA.exit ?_ | refine WpA.cond_true rfl ?_ | refine WpA.cond_false rfl ?_ | refine WpA.cond_ntrue rfl ?_ | refine WpA.cond_dec rfl (fun _ => ?_) (fun _ => ?_) | refine WpA.cond_not rfl (fun _ => ?_) (fun _ => ?_) | refine WpA.cond rfl (fun _ => ?_) (fun _ => ?_)) | (guard_target =~ RunU _ _ _ _ [] _ _ _ _; first | refine RunU.nilL ?_ | refine RunU.nilD (by kernel_rfl) ?_) | (guard_target =~ RunU _ _ _ _ (Oper.mk _ (Op.call ⟨Callee.value _, _, _⟩) _ _ _ none :: _) _ _ _ _; first | refine RunU.cons (sC_ (divisor_c (divTo l j) (l.getD (j * 1) 0) (by omega) (by omega)) (.sh (.sh .nil)) (.sh wS_ (.sh wS_ .nil)) rfl) ?_) | (guard_target =~ RunU _ _ _ _ (Oper.mk _ _ _ _ _ none :: _) _ _ _ _; refine RunU.cons step_any ?_) | refine Then.next ?_ | refine InBlock.next ?_ | refine Done.ret (.one (by first | exact .c rfl | exact .own rfl | exact .als rfl rfl | exact .ptr rfl rfl | exact .part rfl rfl rfl) .nil) (.sh .nil) ?_ rfl)
 case refine_1 h4 =>
  have e : (((divTo l j).gcd (l.getD (j * 1) 0) : Nat) : Int) = divTo l (j + 1) := by rw [Nat.mul_one]; rfl
  have e2 : divs l j ++ [(((divTo l j).gcd (l.getD (j * 1) 0) : Nat) : Int)] = divs l (j + 1) := by rw [e]; rfl
  exact ⟨j + 1, by omega, ⟨_, rfl, rfl, by exact own_ints e2, int_eq e, int_eq (by omega), trivial⟩, by omega⟩
 case refine_2 h4 =>
  have e : j = l.length := by omega
  subst e
  rfl
instance fnOk28 : FnOk Try.prog 28 := ⟨_, Try.func28, rfl, by decide⟩
instance fnOk27 : FnOk Try.prog 27 := ⟨_, Try.func27, rfl, by decide⟩
instance fnOk24 : FnOk Try.prog 24 := ⟨_, Try.func24, rfl, by decide⟩
instance fnOk46 : FnOk Try.prog 46 := ⟨_, Try.func46, rfl, by decide⟩
instance fnOk25 : FnOk Try.prog 25 := ⟨_, Try.func25, rfl, by decide⟩
abbrev vI (x : Int) : AV := .c (.lit (.int .i64 x))
abbrev vL (l : List Int) : AV := .c (.sl false 1 (ints l))
abbrev dI (x : Int) : D := .lit (.int .i64 x)
abbrev dL (l : List Int) : D := .sl true 1 (ints l)
def gTo (b : Int) (l : List Int) : Nat → Int
 | 0 => b
 | j + 1 => (Int.gcd (gTo b l j) (l.getD j 0) : Int)
theorem gTo_bound {b : Int} (l : List Int) (hb : 0 < b) : ∀ j, 0 < gTo b l j ∧ gTo b l j ≤ b
 | 0 => by simp [gTo, hb]
 | j + 1 => by
  have h1 := gTo_bound l hb j
  have h2 := Int.gcd_pos_of_ne_zero_left (l.getD j 0) (show gTo b l j ≠ 0 by omega)
  have h3 := Int.gcd_le_left (b := l.getD j 0) h1.1
  simp only [gTo]
  omega
def posOf (l : List Int) (x : Int) : Nat → Nat
 | 0 => 0
 | k + 1 => if x < l.getD k 0 then posOf l x k else k + 1
theorem posOf_le (l : List Int) (x : Int) : ∀ k, posOf l x k ≤ k
 | 0 => by simp [posOf]
 | k + 1 => by
  have := posOf_le l x k
  simp only [posOf]
  split <;> omega
def insAt (l : List Int) (x : Int) : List Int := l.take (posOf l x l.length) ++ x :: l.drop (posOf l x l.length)
theorem insAt_len (l : List Int) (x : Int) : (insAt l x).length = l.length + 1 := by
 have := posOf_le l x l.length
 simp only [insAt, List.length_append, List.length_take, List.length_cons, List.length_drop]
 omega
def insTo (g : Int) (l : List Int) : Nat → List Int
 | 0 => []
 | j + 1 => insAt (insTo g l j) (l.getD j 0 / g)
theorem insTo_len (g : Int) (l : List Int) : ∀ j, (insTo g l j).length = j
 | 0 => rfl
 | j + 1 => by rw [insTo, insAt_len, insTo_len g l j]
theorem own_sp {id : Nat} {b b' : Int} {l l' : List Int} (h : b = b') (h2 : l = l') : AV.own id (.pt true [dI b, dL l]) = AV.own id (.pt true [dI b', dL l']) := by rw [h, h2]
def Tops (l : List Int) : Prop := ∀ i, 0 ≤ l.getD i 0 ∧ l.getD i 0 ≤ 4000000000000
def mkB (b : Int) (l : List Int) : Int := if b > 1000000 ∨ l.length > 400 then 0 else b / gTo b l l.length
def mkS (b : Int) (l : List Int) : List Int := if b > 1000000 ∨ l.length > 400 then [] else insTo (gTo b l l.length) l l.length
def mkC (b : Int) (l : List Int) : Int := if b > 1000000 ∨ l.length > 400 then 3 else 0
theorem l18Make_c (b : Int) (l : List Int) (hb : 0 < b) (hb2 : b ≤ 4000000000000) (hl : l.length ≤ 1000000) (ht : Tops l) : CallA Try.prog 28 [aI b, aL l] [rSp (mkB b l) (mkS b l), rI (mkC b l)] [] := by
 refine cA_ _ Try.func28 rfl Try.ntmps28 (by first | exact ⟨rfl, rfl⟩ | (simp only [List.all_cons, List.all_nil, V.solid, D.solid, D.solids, solids_ints, solids_bools, solids_LL, Bool.and_self, Bool.and_true, and_self]; done) | simp [V.solid, D.solid, D.solids, solids_lits, solids_ints, solids_bools, solids_LL]) ?_
 repeat' (first | (guard_target =~ WpA _ _ _ _ _ _; first | refine WpA.seq ?_ | refine WpA.drawU ?_ | refine WpA.regionU ?_ | refine WpA.block ?_ | refine WpA.ret ?_ | refine WpA.skip ?_ | refine WpA.exit ?_ | refine WpA.cond_true rfl ?_ | refine WpA.cond_false rfl ?_ | refine WpA.cond_ntrue rfl ?_ | refine WpA.cond_dec rfl (fun _ => ?_) (fun _ => ?_) | refine WpA.cond_not rfl (fun _ => ?_) (fun _ => ?_) | refine WpA.cond rfl (fun _ => ?_) (fun _ => ?_)) | (guard_target =~ RunU _ _ _ _ [] _ _ _ _; first | refine RunU.nilL ?_ | refine RunU.nilD (by kernel_rfl) ?_) | (guard_target =~ RunU _ _ _ _ (Oper.mk _ _ _ _ _ none :: _) _ _ _ _; refine RunU.cons step_any ?_) | (guard_target =~ RunU _ _ _ _ (Oper.mk _ _ _ _ _ (some _) :: _) _ _ _ _; first | refine RunU.pass rfl rfl rfl rfl ?_ | refine RunU.pass_undef rfl rfl rfl ?_ | refine RunU.doit rfl rfl step_any ?_ | ((fail_if_success (refine RunU.doit (rd := []) (up := []) rfl rfl ?_ ?_)); first | refine RunU.guard_dec rfl rfl (fun _ => ?_) (fun _ => ?_) | refine RunU.guard_not rfl rfl (fun _ => ?_) (fun _ => ?_) | refine RunU.guard rfl rfl (fun _ => ?_) (fun _ => ?_))) | refine Then.next ?_ | refine InBlock.next ?_ | refine Done.ret (.cell inferInstance rfl rfl (.one (by first | exact .c rfl | exact .own rfl | exact .als rfl rfl | exact .ptr rfl rfl | exact .part rfl rfl rfl) .nil)) (.sh (.sh .nil)) ?_ rfl)
 case refine_1 h => simp only [mkB, mkS, mkC, if_pos (Or.inl h : b > 1000000 ∨ l.length > 400)]; rfl
 case refine_2.refine_1 h h2 => simp only [mkB, mkS, mkC, if_pos (Or.inr (by omega) : b > 1000000 ∨ l.length > 400)]; rfl
 case refine_2.refine_2 h1 h2 =>
  have hn : ¬ (b > 1000000 ∨ l.length > 400) := by omega
  refine WpA.loop_slots (ι := Nat) (fun j => [(0, vI b), (1, vL l), (4, .own 2 (.pt true [dI 0, dL []])), (5, vI 0), (6, vI (gTo b l j)), (7, vI j)]) (fun j => j ≤ l.length) (fun j => l.length - j) 0 (by simp) ⟨rfl, rfl, rfl, rfl, rfl, rfl, trivial⟩ ?_
  intro j s nx hj
  have hg := gTo_bound l hb j
  have htj := ht (j * 1)
  repeat' (first | (guard_target =~ WpA _ _ _ _ _ _; first | refine WpA.seq ?_ | refine WpA.drawU ?_ | refine WpA.regionU ?_ | refine WpA.block ?_ | refine WpA.ret ?_ | refine WpA.skip ?_ | refine WpA.exit ?_ | refine WpA.cond_true rfl ?_ | refine WpA.cond_false rfl ?_ | refine WpA.cond_ntrue rfl ?_ | refine WpA.cond_dec rfl (fun _ => ?_) (fun _ => ?_) | refine WpA.cond_not rfl (fun _ => ?_) (fun _ => ?_) | refine WpA.cond rfl (fun _ => ?_) (fun _ => ?_)) | (guard_target =~ RunU _ _ _ _ [] _ _ _ _; first | refine RunU.nilL ?_ | refine RunU.nilD (by kernel_rfl) ?_) | (guard_target =~ RunU _ _ _ _ (Oper.mk _ (Op.call ⟨Callee.value _, _, _⟩) _ _ _ none :: _) _ _ _ _; first | refine RunU.cons (sC_ (gcd_c (gTo b l j) (l.getD (j * 1) 0) (by omega) (by omega)) (.sh (.sh .nil)) (.sh wS_ (.sh wS_ .nil)) rfl) ?_) | (guard_target =~ RunU _ _ _ _ (Oper.mk _ _ _ _ _ none :: _) _ _ _ _; refine RunU.cons step_any ?_) | (guard_target =~ RunU _ _ _ _ (Oper.mk _ _ _ _ _ (some _) :: _) _ _ _ _; first | refine RunU.pass rfl rfl rfl rfl ?_ | refine RunU.pass_undef rfl rfl rfl ?_ | (guard_target =~ RunU _ _ _ _ (Oper.mk _ (Op.call ⟨Callee.value _, _, _⟩) _ _ _ _ :: _) _ _ _ _; first | refine RunU.doit rfl rfl (sC_ (gcd_c (gTo b l j) (l.getD (j * 1) 0) (by omega) (by omega)) (.sh (.sh .nil)) (.sh wS_ (.sh wS_ .nil)) rfl) ?_) | refine RunU.doit rfl rfl step_any ?_ | ((fail_if_success (refine RunU.doit (rd := []) (up := []) rfl rfl ?_ ?_)); first | refine RunU.guard_dec rfl rfl (fun _ => ?_) (fun _ => ?_) | refine RunU.guard_not rfl rfl (fun _ => ?_) (fun _ => ?_) | refine RunU.guard rfl rfl (fun _ => ?_) (fun _ => ?_))) | refine Then.next ?_ | refine InBlock.next ?_ | refine Done.ret (.cell inferInstance rfl rfl (.one (by first | exact .c rfl | exact .own rfl | exact .als rfl rfl | exact .ptr rfl rfl | exact .part rfl rfl rfl) .nil)) (.sh (.sh .nil)) ?_ rfl)
  case refine_1 h3 =>
   have e : (((gTo b l j).gcd (l.getD (j * 1) 0) : Nat) : Int) = gTo b l (j + 1) := by rw [Nat.mul_one]; rfl
   exact ⟨j + 1, by omega, ⟨rfl, rfl, rfl, rfl, int_eq e, int_eq (by omega), trivial⟩, by omega⟩
  case refine_2 h3 =>
   have e : j = l.length := by omega
   subst e
   generalize hgg : gTo b l l.length = gg at *
   refine WpA.loop_slots2 (fun j id => [(1, vL l), (4, .own 2 (.pt true [dI 0, dL []])), (5, vI 0), (6, vI gg), (8, .own id (.pt true [dI (b / gg), dL (insTo gg l j)])), (9, vI j)]) (fun j => j ≤ l.length) (fun j => l.length - j) 0 _ (by simp) ⟨rfl, rfl, rfl, rfl, xR_, rfl, trivial⟩ ?_
   intro j id s nx hj
   by_cases hlt : j < l.length
   ·have htj := ht (j * 1)
    have hil := insTo_len gg l j
    generalize hls : insTo gg l j = ls at *
    repeat' (first | (guard_target =~ WpA _ _ _ _ _ _; first | refine WpA.seq ?_ | refine WpA.drawU ?_ | refine WpA.regionU ?_ | refine WpA.block ?_ | refine WpA.ret ?_ | refine WpA.skip ?_ | refine WpA.exit ?_ | refine WpA.cond_true rfl ?_ | refine WpA.cond_false rfl ?_ | refine WpA.cond_ntrue rfl ?_ | refine WpA.cond_dec rfl (fun _ => ?_) (fun _ => ?_) | refine WpA.cond_not rfl (fun _ => ?_) (fun _ => ?_) | refine WpA.cond rfl (fun _ => ?_) (fun _ => ?_)) | (guard_target =~ RunU _ _ _ _ [] _ _ _ _; first | refine RunU.nilL ?_ | refine RunU.nilD (by kernel_rfl) ?_) | (guard_target =~ RunU _ _ _ _ (Oper.mk _ _ _ _ _ none :: _) _ _ _ _; refine RunU.cons step_any ?_) | (guard_target =~ RunU _ _ _ _ (Oper.mk _ _ _ _ _ (some _) :: _) _ _ _ _; first | refine RunU.pass rfl rfl rfl rfl ?_ | refine RunU.pass_undef rfl rfl rfl ?_ | refine RunU.doit rfl rfl step_any ?_ | ((fail_if_success (refine RunU.doit (rd := []) (up := []) rfl rfl ?_ ?_)); first | refine RunU.guard_dec rfl rfl (fun _ => ?_) (fun _ => ?_) | refine RunU.guard_not rfl rfl (fun _ => ?_) (fun _ => ?_) | refine RunU.guard rfl rfl (fun _ => ?_) (fun _ => ?_))) | refine Then.next ?_ | refine InBlock.next ?_ | refine Done.ret (.cell inferInstance rfl rfl (.one (by first | exact .c rfl | exact .own rfl | exact .als rfl rfl | exact .ptr rfl rfl | exact .part rfl rfl rfl) .nil)) (.sh (.sh .nil)) ?_ rfl)
    case refine_2 h4 => exact absurd hlt (by omega)
    case refine_1 h4 =>
     generalize hx : l.getD (j * 1) 0 / gg = x
     refine WpA.loop_slots (ι := Nat) (fun k => [(1, vL l), (4, .own 2 (.pt true [dI 0, dL []])), (5, vI 0), (6, vI gg), (8, .own id (.pt true [dI (b / gg), dL ls])), (9, vI j), (10, vI x), (11, vI k)]) (fun k => k ≤ ls.length ∧ posOf ls x k = posOf ls x ls.length) (fun k => k) ls.length ⟨Nat.le_refl _, rfl⟩ ⟨rfl, rfl, rfl, rfl, rfl, rfl, rfl, rfl, trivial⟩ ?_
     intro k s nx hk
     have stop : posOf ls x k = k → [] ++ List.take (k - 0) (List.drop 0 ls) ++ ([x] ++ List.take (ls.length - k) (List.drop k ls)) = insTo gg l (j + 1) := fun e => by
      rw [insTo, hls, ← Nat.mul_one j, hx, insAt, ← hk.2, e, List.take_of_length_le (l := ls.drop k) (by rw [List.length_drop]; omega)]
      simp
     repeat' (first | (guard_target =~ WpA _ _ _ _ _ _; first | refine WpA.seq ?_ | refine WpA.drawU ?_ | refine WpA.regionU ?_ | refine WpA.block ?_ | refine WpA.ret ?_ | refine WpA.skip ?_ | refine WpA.exit ?_ | refine WpA.cond_true rfl ?_ | refine WpA.cond_false rfl ?_ | refine WpA.cond_ntrue rfl ?_ | refine WpA.cond_dec rfl (fun _ => ?_) (fun _ => ?_) | refine WpA.cond_not rfl (fun _ => ?_) (fun _ => ?_) | refine WpA.cond rfl (fun _ => ?_) (fun _ => ?_)) | (guard_target =~ RunU _ _ _ _ [] _ _ _ _; first | refine RunU.nilL ?_ | refine RunU.nilD (by kernel_rfl) ?_) | (guard_target =~ RunU _ _ _ _ (Oper.mk _ _ _ _ _ none :: _) _ _ _ _; refine RunU.cons step_any ?_) | (guard_target =~ RunU _ _ _ _ (Oper.mk _ _ _ _ _ (some _) :: _) _ _ _ _; first | refine RunU.pass rfl rfl rfl rfl ?_ | refine RunU.pass_undef rfl rfl rfl ?_ | refine RunU.doit rfl rfl step_any ?_ | ((fail_if_success (refine RunU.doit (rd := []) (up := []) rfl rfl ?_ ?_)); first | refine RunU.guard_dec rfl rfl (fun _ => ?_) (fun _ => ?_) | refine RunU.guard_not rfl rfl (fun _ => ?_) (fun _ => ?_) | refine RunU.guard rfl rfl (fun _ => ?_) (fun _ => ?_))) | refine Then.next ?_ | refine InBlock.next ?_ | refine Done.ret (.cell inferInstance rfl rfl (.one (by first | exact .c rfl | exact .own rfl | exact .als rfl rfl | exact .ptr rfl rfl | exact .part rfl rfl rfl) .nil)) (.sh (.sh .nil)) ?_ rfl)
     case refine_1.refine_1 h5 h6 =>
      obtain ⟨q, rfl⟩ : ∃ q, k = q + 1 := ⟨k - 1, by omega⟩
      have e1 : (((q + 1 : Nat) : Int) - 1).toNat * 1 = q := by omega
      rw [e1] at h6
      refine ⟨q, ⟨by omega, ?_⟩, ⟨rfl, rfl, rfl, rfl, rfl, rfl, rfl, int_eq (by omega), trivial⟩, by omega⟩
      rw [← hk.2, posOf, if_pos h6]
     case refine_1.refine_2 h5 h6 =>
      obtain ⟨q, rfl⟩ : ∃ q, k = q + 1 := ⟨k - 1, by omega⟩
      have e1 : (((q + 1 : Nat) : Int) - 1).toNat * 1 = q := by omega
      rw [e1] at h6
      have e2 := stop (by rw [posOf, if_neg h6])
      exact ⟨j + 1, by omega, ⟨_, rfl, rfl, rfl, rfl, by exact own_sp rfl e2, int_eq (by omega), trivial⟩, by omega⟩
     case refine_2 h5 =>
      obtain rfl : k = 0 := by omega
      have e2 := stop rfl
      exact ⟨j + 1, by omega, ⟨_, rfl, rfl, rfl, rfl, by exact own_sp rfl e2, int_eq (by omega), trivial⟩, by omega⟩
   ·have e : j = l.length := by omega
    subst e
    repeat' (first | (guard_target =~ WpA _ _ _ _ _ _; first | refine WpA.seq ?_ | refine WpA.drawU ?_ | refine WpA.regionU ?_ | refine WpA.block ?_ | refine WpA.ret ?_ | refine WpA.skip ?_ | refine WpA.exit ?_ | refine WpA.cond_true rfl ?_ | refine WpA.cond_false rfl ?_ | refine WpA.cond_ntrue rfl ?_ | refine WpA.cond_dec rfl (fun _ => ?_) (fun _ => ?_) | refine WpA.cond_not rfl (fun _ => ?_) (fun _ => ?_) | refine WpA.cond rfl (fun _ => ?_) (fun _ => ?_)) | (guard_target =~ RunU _ _ _ _ [] _ _ _ _; first | refine RunU.nilL ?_ | refine RunU.nilD (by kernel_rfl) ?_) | (guard_target =~ RunU _ _ _ _ (Oper.mk _ _ _ _ _ none :: _) _ _ _ _; refine RunU.cons step_any ?_) | (guard_target =~ RunU _ _ _ _ (Oper.mk _ _ _ _ _ (some _) :: _) _ _ _ _; first | refine RunU.pass rfl rfl rfl rfl ?_ | refine RunU.pass_undef rfl rfl rfl ?_ | refine RunU.doit rfl rfl step_any ?_ | ((fail_if_success (refine RunU.doit (rd := []) (up := []) rfl rfl ?_ ?_)); first | refine RunU.guard_dec rfl rfl (fun _ => ?_) (fun _ => ?_) | refine RunU.guard_not rfl rfl (fun _ => ?_) (fun _ => ?_) | refine RunU.guard rfl rfl (fun _ => ?_) (fun _ => ?_))) | refine Then.next ?_ | refine InBlock.next ?_ | refine Done.ret (.cell inferInstance rfl rfl (.one (by first | exact .c rfl | exact .own rfl | exact .als rfl rfl | exact .ptr rfl rfl | exact .part rfl rfl rfl) .nil)) (.sh (.sh .nil)) ?_ rfl)
    case refine_1 h4 => exact absurd h4 (by omega)
    case refine_2 h4 =>
     simp only [mkB, mkS, mkC, if_neg hn, hgg]
     rfl
instance fnOk52 : FnOk Try.prog 52 := ⟨_, Try.func52, rfl, by decide⟩
instance fnOk51 : FnOk Try.prog 51 := ⟨_, Try.func51, rfl, by decide⟩
def Strict (l : List Int) : Prop := ∀ i, i < l.length → 0 < i → l.getD (i - 1) 0 < l.getD i 0
instance decStrict (l : List Int) : Decidable (Strict l) := by unfold Strict; infer_instance
def Falls (l : List Int) : Prop := (∀ i, i < l.length → 0 < i → divTo l (i + 1) < divTo l i) ∧ divTo l l.length = 1
instance decFalls (l : List Int) : Decidable (Falls l) := by unfold Falls; infer_instance
def IsBr (l : List Int) : Prop := 0 < l.length ∧ (1 ≤ l.getD 0 0 ∧ l.getD 0 0 ≤ 64) ∧ Strict l ∧ Within l 1 2000 ∧ Falls l
instance decIsBr (l : List Int) : Decidable (IsBr l) := by unfold IsBr; infer_instance
theorem isBr_def (l : List Int) : IsBr l ↔ 0 < l.length ∧ (1 ≤ l.getD 0 0 ∧ l.getD 0 0 ≤ 64) ∧ Strict l ∧ Within l 1 2000 ∧ Falls l := Iff.rfl
theorem divs_at (l : List Int) : ∀ j i, i < j → (divs l j).getD i 0 = divTo l (i + 1)
 | j + 1, i, h => by
  have hl := divs_len l j
  simp only [divs, List.getD_eq_getElem?_getD]
  by_cases hi : i < j
  ·rw [List.getElem?_append_left (by omega), ← List.getD_eq_getElem?_getD, divs_at l j i hi]
  ·obtain rfl : i = j := by omega
   rw [List.getElem?_append_right (by omega), hl]
   simp
theorem within_bound {l : List Int} {a b : Int} (h : Within l a b) (ha : 0 ≤ a) (hb : b ≤ 1000000000) : ∀ i, 0 ≤ l.getD i 0 ∧ l.getD i 0 ≤ 1000000000 := by
 intro i
 by_cases hi : i < l.length
 ·have := h i hi
  omega
 ·rw [List.getD_eq_getElem?_getD, List.getElem?_eq_none (by omega)]; simp
theorem ascends_c (l : List Int) (hl : l.length ≤ 1000000000) : CallA Try.prog 51 [aL l] [rB (decide (Strict l))] [] := by
 refine cA_ _ Try.func51 rfl Try.ntmps51 (by first | exact ⟨rfl, rfl⟩ | (simp only [List.all_cons, List.all_nil, V.solid, D.solid, D.solids, solids_ints, solids_bools, solids_LL, Bool.and_self, Bool.and_true, and_self]; done) | simp [V.solid, D.solid, D.solids, solids_lits, solids_ints, solids_bools, solids_LL]) ?_
 repeat' (first | (guard_target =~ WpA _ _ _ _ _ _; first | refine WpA.seq ?_ | refine WpA.drawU ?_ | refine WpA.regionU ?_ | refine WpA.block ?_ | refine WpA.ret ?_ | refine WpA.skip ?_ | refine WpA.exit ?_ | refine WpA.cond_true rfl ?_ | refine WpA.cond_false rfl ?_ | refine WpA.cond_ntrue rfl ?_ | refine WpA.cond_dec rfl (fun _ => ?_) (fun _ => ?_) | refine WpA.cond_not rfl (fun _ => ?_) (fun _ => ?_) | refine WpA.cond rfl (fun _ => ?_) (fun _ => ?_)) | (guard_target =~ RunU _ _ _ _ [] _ _ _ _; first | refine RunU.nilL ?_ | refine RunU.nilD (by kernel_rfl) ?_) | (guard_target =~ RunU _ _ _ _ (Oper.mk _ _ _ _ _ none :: _) _ _ _ _; refine RunU.cons step_any ?_) | refine Then.next ?_ | refine InBlock.next ?_ | refine Done.ret (.one (by first | exact .c rfl | exact .own rfl | exact .als rfl rfl | exact .ptr rfl rfl | exact .part rfl rfl rfl) .nil) (.sh .nil) ?_ rfl)
 refine WpA.loop_slots (ι := Nat) (fun j => [(0, vL l), (3, vI ((j : Int) + 1))]) (fun j => (j + 1 ≤ l.length ∨ j = 0) ∧ ∀ i, i < j + 1 → 0 < i → l.getD (i - 1) 0 < l.getD i 0) (fun j => l.length - j) 0 ⟨.inr rfl, fun i h1 h2 => absurd h1 (by omega)⟩ ⟨rfl, rfl, trivial⟩ ?_
 intro j s nx hj
 have e1 : (j + 1) * 1 = j + 1 := by omega
 have e2 : ((j : Int) + 1 - 1).toNat * 1 = j := by omega
 by_cases hlt : j + 1 < l.length
 ·repeat' (first | (guard_target =~ WpA _ _ _ _ _ _; first | refine WpA.seq ?_ | refine WpA.drawU ?_ | refine WpA.regionU ?_ | refine WpA.block ?_ | refine WpA.ret ?_ | refine WpA.skip ?_ | refine WpA.exit ?_ | refine WpA.cond_true rfl ?_ | refine WpA.cond_false rfl ?_ | refine WpA.cond_ntrue rfl ?_ | refine WpA.cond_dec rfl (fun _ => ?_) (fun _ => ?_) | refine WpA.cond_not rfl (fun _ => ?_) (fun _ => ?_) | refine WpA.cond rfl (fun _ => ?_) (fun _ => ?_)) | (guard_target =~ RunU _ _ _ _ [] _ _ _ _; first | refine RunU.nilL ?_ | refine RunU.nilD (by kernel_rfl) ?_) | (guard_target =~ RunU _ _ _ _ (Oper.mk _ _ _ _ _ none :: _) _ _ _ _; refine RunU.cons step_any ?_) | refine Then.next ?_ | refine InBlock.next ?_ | refine Done.ret (.one (by first | exact .c rfl | exact .own rfl | exact .als rfl rfl | exact .ptr rfl rfl | exact .part rfl rfl rfl) .nil) (.sh .nil) ?_ rfl)
  all_goals try (exfalso; omega)
  case refine_1.refine_1 h3 h4 =>
   rw [e1, e2] at h4
   have : ¬ Strict l := fun h => by
    have := h (j + 1) hlt (by omega)
    simp only [Nat.add_sub_cancel] at this
    omega
   simp [this]
  case refine_1.refine_2 h3 h4 =>
   rw [e1, e2] at h4
   refine ⟨j + 1, ⟨.inl (by omega), fun i hi h0 => ?_⟩, ⟨rfl, int_eq (by omega), trivial⟩, by omega⟩
   by_cases e : i = j + 1
   ·subst e; simp only [Nat.add_sub_cancel]; omega
   ·exact hj.2 i (by omega) h0
 ·repeat' (first | (guard_target =~ WpA _ _ _ _ _ _; first | refine WpA.seq ?_ | refine WpA.drawU ?_ | refine WpA.regionU ?_ | refine WpA.block ?_ | refine WpA.ret ?_ | refine WpA.skip ?_ | refine WpA.exit ?_ | refine WpA.cond_true rfl ?_ | refine WpA.cond_false rfl ?_ | refine WpA.cond_ntrue rfl ?_ | refine WpA.cond_dec rfl (fun _ => ?_) (fun _ => ?_) | refine WpA.cond_not rfl (fun _ => ?_) (fun _ => ?_) | refine WpA.cond rfl (fun _ => ?_) (fun _ => ?_)) | (guard_target =~ RunU _ _ _ _ [] _ _ _ _; first | refine RunU.nilL ?_ | refine RunU.nilD (by kernel_rfl) ?_) | (guard_target =~ RunU _ _ _ _ (Oper.mk _ _ _ _ _ none :: _) _ _ _ _; refine RunU.cons step_any ?_) | refine Then.next ?_ | refine InBlock.next ?_ | refine Done.ret (.one (by first | exact .c rfl | exact .own rfl | exact .als rfl rfl | exact .ptr rfl rfl | exact .part rfl rfl rfl) .nil) (.sh .nil) ?_ rfl)
  all_goals try (exfalso; omega)
  have : Strict l := fun i hi h0 => hj.2 i (by omega) h0
  simp [this]
theorem falls_c (l : List Int) (hl : l.length ≤ 1000000000) (h0 : 0 < l.length) (hb : ∀ i, 0 ≤ l.getD i 0 ∧ l.getD i 0 ≤ 1000000000) : CallA Try.prog 52 [aL l] [rB (decide (Falls l))] [] := by
 refine cA_ _ Try.func52 rfl Try.ntmps52 (by first | exact ⟨rfl, rfl⟩ | (simp only [List.all_cons, List.all_nil, V.solid, D.solid, D.solids, solids_ints, solids_bools, solids_LL, Bool.and_self, Bool.and_true, and_self]; done) | simp [V.solid, D.solid, D.solids, solids_lits, solids_ints, solids_bools, solids_LL]) ?_
 have hdl := divs_len l l.length
 repeat' (first | (guard_target =~ WpA _ _ _ _ _ _; first | refine WpA.seq ?_ | refine WpA.drawU ?_ | refine WpA.regionU ?_ | refine WpA.block ?_ | refine WpA.ret ?_ | refine WpA.skip ?_ | refine WpA.exit ?_ | refine WpA.cond_true rfl ?_ | refine WpA.cond_false rfl ?_ | refine WpA.cond_ntrue rfl ?_ | refine WpA.cond_dec rfl (fun _ => ?_) (fun _ => ?_) | refine WpA.cond_not rfl (fun _ => ?_) (fun _ => ?_) | refine WpA.cond rfl (fun _ => ?_) (fun _ => ?_)) | (guard_target =~ RunU _ _ _ _ [] _ _ _ _; first | refine RunU.nilL ?_ | refine RunU.nilD (by kernel_rfl) ?_) | (guard_target =~ RunU _ _ _ _ (Oper.mk _ (Op.call ⟨Callee.value _, _, _⟩) _ _ _ none :: _) _ _ _ _; first | refine RunU.cons (sC_ (divisors_c l (by omega) hb) (.sh .nil) (.sh wS_ .nil) rfl) ?_) | (guard_target =~ RunU _ _ _ _ (Oper.mk _ _ _ _ _ none :: _) _ _ _ _; refine RunU.cons step_any ?_) | refine Then.next ?_ | refine InBlock.next ?_ | refine Done.ret (.one (by first | exact .c rfl | exact .own rfl | exact .als rfl rfl | exact .ptr rfl rfl | exact .part rfl rfl rfl) .nil) (.sh .nil) ?_ rfl)
 refine WpA.loop_slots2 (fun j id => [(3, .own id (.sl true 1 (ints (divs l l.length)))), (4, vI ((j : Int) + 1))]) (fun j => j + 1 ≤ l.length ∧ ∀ i, i < j + 1 → 0 < i → divTo l (i + 1) < divTo l i) (fun j => l.length - j) 0 _ ⟨by omega, fun i h1 h2 => absurd h1 (by omega)⟩ ⟨xR_, rfl, trivial⟩ ?_
 intro j id s nx hj
 have e1 : (j + 1) * 1 = j + 1 := by omega
 have e2 : ((j : Int) + 1 - 1).toNat * 1 = j := by omega
 by_cases hlt : j + 1 < l.length
 ·have d1 := divs_at l l.length (j + 1) hlt
  have d2 := divs_at l l.length j (by omega)
  rw [← e1] at d1
  rw [← e2] at d2
  repeat' (first | (guard_target =~ WpA _ _ _ _ _ _; first | refine WpA.seq ?_ | refine WpA.drawU ?_ | refine WpA.regionU ?_ | refine WpA.block ?_ | refine WpA.ret ?_ | refine WpA.skip ?_ | refine WpA.exit ?_ | refine WpA.cond_true rfl ?_ | refine WpA.cond_false rfl ?_ | refine WpA.cond_ntrue rfl ?_ | refine WpA.cond_dec rfl (fun _ => ?_) (fun _ => ?_) | refine WpA.cond_not rfl (fun _ => ?_) (fun _ => ?_) | refine WpA.cond rfl (fun _ => ?_) (fun _ => ?_)) | (guard_target =~ RunU _ _ _ _ [] _ _ _ _; first | refine RunU.nilL ?_ | refine RunU.nilD (by kernel_rfl) ?_) | (guard_target =~ RunU _ _ _ _ (Oper.mk _ _ _ _ _ none :: _) _ _ _ _; refine RunU.cons step_any ?_) | refine Then.next ?_ | refine InBlock.next ?_ | refine Done.ret (.one (by first | exact .c rfl | exact .own rfl | exact .als rfl rfl | exact .ptr rfl rfl | exact .part rfl rfl rfl) .nil) (.sh .nil) ?_ rfl)
  all_goals try (exfalso; omega)
  case refine_1.refine_1 h3 h4 =>
   rw [d1, d2, e1, e2] at h4
   have : ¬ Falls l := fun h => by
    have := h.1 (j + 1) hlt (by omega)
    omega
   simp [this]
  case refine_1.refine_2 h3 h4 =>
   rw [d1, d2, e1, e2] at h4
   refine ⟨j + 1, ⟨by omega, fun i hi h0 => ?_⟩, ⟨_, rfl, int_eq (by omega), trivial⟩, by omega⟩
   by_cases e : i = j + 1
   ·subst e; omega
   ·exact hj.2 i (by omega) h0
 ·have hall : ∀ i, i < l.length → 0 < i → divTo l (i + 1) < divTo l i := fun i hi h0 => hj.2 i (by omega) h0
  have hlast : (divs l l.length).getD (((l.length : Int) - 1).toNat * 1) 0 = divTo l l.length := by
   rw [divs_at l l.length _ (by omega)]
   congr 1; omega
  repeat' (first | (guard_target =~ WpA _ _ _ _ _ _; first | refine WpA.seq ?_ | refine WpA.drawU ?_ | refine WpA.regionU ?_ | refine WpA.block ?_ | refine WpA.ret ?_ | refine WpA.skip ?_ | refine WpA.exit ?_ | refine WpA.cond_true rfl ?_ | refine WpA.cond_false rfl ?_ | refine WpA.cond_ntrue rfl ?_ | refine WpA.cond_dec rfl (fun _ => ?_) (fun _ => ?_) | refine WpA.cond_not rfl (fun _ => ?_) (fun _ => ?_) | refine WpA.cond rfl (fun _ => ?_) (fun _ => ?_)) | (guard_target =~ RunU _ _ _ _ [] _ _ _ _; first | refine RunU.nilL ?_ | refine RunU.nilD (by kernel_rfl) ?_) | (guard_target =~ RunU _ _ _ _ (Oper.mk _ _ _ _ _ none :: _) _ _ _ _; refine RunU.cons step_any ?_) | refine Then.next ?_ | refine InBlock.next ?_ | refine Done.ret (.one (by first | exact .c rfl | exact .own rfl | exact .als rfl rfl | exact .ptr rfl rfl | exact .part rfl rfl rfl) .nil) (.sh .nil) ?_ rfl)
  all_goals try (exfalso; omega)
  have hf : divTo l l.length = 1 ↔ Falls l := ⟨fun q => ⟨hall, q⟩, fun q => q.2⟩
  simp only [hdl, hlast]
  exact congrArg (fun b => [rB b]) (decide_eq_decide.2 hf)
theorem divTo_ge {l : List Int} (h0 : 0 < l.getD 0 0) : ∀ j, 0 < divTo l (j + 1)
 | 0 => by
  simp only [divTo, Int.gcd_zero_left]
  omega
 | j + 1 => by
  have := Int.gcd_pos_of_ne_zero_left (l.getD (j + 1) 0) (show divTo l (j + 1) ≠ 0 by have := divTo_ge h0 j; omega)
  rw [divTo]
  omega
theorem divTo_down {l : List Int} (h0 : 0 < l.getD 0 0) (j : Nat) : divTo l (j + 1 + 1) ≤ divTo l (j + 1) := by
 have := Int.gcd_le_left (b := l.getD (j + 1) 0) (divTo_ge h0 j)
 rw [divTo]
 omega
theorem isBr_iff (l : List Int) : IsBr l ↔ 0 < l.length ∧ (1 ≤ l.getD 0 0 ∧ l.getD 0 0 ≤ 64) ∧ (∀ i, i < l.length → 0 < i → (l.getD (i - 1) 0 + 1 ≤ l.getD i 0 ∧ l.getD i 0 ≤ 2000) ∧ divTo l (i + 1) ≠ divTo l i) ∧ divTo l l.length = 1 := by
 constructor
 ·rintro ⟨h1, h2, h3, h4, h5, h6⟩
  refine ⟨h1, h2, fun i hi h0 => ⟨⟨?_, (h4 i hi).2⟩, ?_⟩, h6⟩
  ·have := h3 i hi h0; omega
  ·have := h5 i hi h0; omega
 ·rintro ⟨h1, h2, h3, h4⟩
  have hw : ∀ i, i < l.length → 1 ≤ l.getD i 0 ∧ l.getD i 0 ≤ 2000 := by
   intro i
   induction i with
   | zero => intro _; omega
   | succ i ih =>
    intro hi
    have := ih (by omega)
    have h5 := (h3 (i + 1) hi (by omega)).1
    simp only [Nat.add_sub_cancel] at h5
    omega
  refine ⟨h1, h2, fun i hi h0 => ?_, hw, fun i hi h0 => ?_, h4⟩
  ·have := (h3 i hi h0).1; omega
  ·have h5 := (h3 i hi h0).2
   obtain ⟨k, rfl⟩ : ∃ k, i = k + 1 := ⟨i - 1, by omega⟩
   have := divTo_down (l := l) (by omega) k
   omega
end Go.Proofs.Ytohhkbbjdjibgaa
