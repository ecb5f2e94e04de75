/- Drawn branches: the reference's draws hand out branches. No condition. -/
import Derived.Test.YtmgmpnhlehonmaaGreatOSpA
import Derived.Test.YtmgmpnhlehonmaaGreatOPwC
import Derived.Test.YtmgmpnhlehonmaaGreatOGrU
import Derived.Test.YtmgmpnhlehonmaaGreatOGvA
set_option linter.unusedVariables false
set_option linter.unusedSimpArgs false
namespace Go.Proofs.YtmgmpnhlehonmaaGreat
set_option maxRecDepth 100000
set_option maxHeartbeats 20000000
open Go.Pv
open Go.ChangeShapes Go.WideShapes Go.ChangeAt Go.RowKit
attribute [local irreducible] RunU WpA Step CallG CallNG Done DoneN
instance fnOk60 : FnOk Tryz.prog 60 := ⟨_, Tryz.func60, rfl, by decide⟩
instance fnOk65 : FnOk Tryz.prog 65 := ⟨_, Tryz.func65, rfl, by decide⟩
instance fnOk93 : FnOk Tryz.prog 93 := ⟨_, Tryz.func93, rfl, by decide⟩
abbrev bytes (l : List Int) : List D := l.map fun x => D.lit (.int .u8 x)
abbrev aBy (l : List Int) : Arg := .sh (.one (.sl false 1 (bytes l)))
theorem bytes_get {l : List Int} {i : Nat} (h : i < l.length) : (bytes l)[i]? = some (.lit (.int .u8 (l.getD i 0))) := map_get 0 h
def wr (x : Int) : Int := IntKind.u64.wrap x
theorem wr_in (x : Int) : 0 ≤ wr x ∧ wr x ≤ 18446744073709551615 := by
 unfold wr
 simp only [IntKind.wrap, IntKind.bits, IntKind.signed]
 have h1 := Int.emod_nonneg x (show (2 : Int) ^ 64 ≠ 0 by decide)
 have h2 := Int.emod_lt_of_pos x (show (0 : Int) < 2 ^ 64 by decide)
 have e : (2 : Int) ^ 64 = 18446744073709551616 := by decide
 rw [e] at h1 h2
 simp
 omega
def shr33 (a : Int) : Int := a.fdiv (2 ^ 33)
def and24 (a : Int) : Int := IntKind.u64.wrap ((BitVec.ofInt 64 a &&& BitVec.ofInt 64 16777215).toNat : Int)
theorem and24_in (a : Int) : 0 ≤ and24 a ∧ and24 a ≤ 16777215 := by
 have h : (BitVec.ofInt 64 a &&& BitVec.ofInt 64 16777215).toNat ≤ 16777215 := by
  rw [BitVec.toNat_and]
  have e : (BitVec.ofInt 64 16777215).toNat = 16777215 := by decide
  rw [e]
  exact Nat.and_le_right
 have e3 : and24 a = wr ((BitVec.ofInt 64 a &&& BitVec.ofInt 64 16777215).toNat : Int) := rfl
 rw [e3]
 generalize (BitVec.ofInt 64 a &&& BitVec.ofInt 64 16777215).toNat = m at *
 have e2 : wr (m : Int) = m := by
  unfold wr
  simp only [IntKind.wrap, IntKind.bits, IntKind.signed]
  simp
  omega
 rw [e2]
 omega
theorem run_and24 {P : Program} (a : Int) (w : World) : (Op.intBits .and .u64 a 16777215 : Sem Value).run P w = .ok (.int .u64 (and24 a)) w := rfl
section
variable {P : Program} {n : NN} {nid : Nat} {st : Nat → AV} {d : Nat} {x y : Operand} {a b : Int} {S T T' : TypeId} {ty pos aft g}
theorem step_mul_u (hx : Go.Pv.Lit st x (.int .u64 a)) (hy : Go.Pv.Lit st y (.int .u64 b)) (hd : n d = true) : Step P n ⟨some d, .binOp .mul T x y T', ty, pos, aft, g⟩ nid st (rdOf x ++ rdOf y) [(d, .c (.lit (.int .u64 (wr (a * b)))))] := step_mul hx hy hd
theorem step_add_u (hx : Go.Pv.Lit st x (.int .u64 a)) (hy : Go.Pv.Lit st y (.int .u64 b)) (hd : n d = true) : Step P n ⟨some d, .binOp .add T x y T', ty, pos, aft, g⟩ nid st (rdOf x ++ rdOf y) [(d, .c (.lit (.int .u64 (wr (a + b)))))] := step_add hx hy hd
theorem step_conv_u {k0 k1 : IntKind} [hT : IntTy P T .u64] [hS : IntTy P S k1] (hx : Go.Pv.Lit st x (.int k0 a)) (hd : n d = true) : Step P n ⟨some d, .convert S T x, ty, pos, aft, g⟩ nid st (rdOf x) [(d, .c (.lit (.int .u64 (wr a))))] := step_convert hx hd
theorem step_shr33 (hx : Go.Pv.Lit st x (.int .u64 a)) (hy : Go.Pv.Lit st y (.int .u64 33)) (hd : n d = true) : Step P n ⟨some d, .binOp .shr T x y T', ty, pos, aft, g⟩ nid st (rdOf x ++ rdOf y) [(d, .c (.lit (.int .u64 (shr33 a))))] :=
 step_bin hx hy rfl (fun w => by simp [eqGuard_int, binOp, Op.shift, shr33, IntKind.bits]) hd
theorem step_and24 (hx : Go.Pv.Lit st x (.int .u64 a)) (hy : Go.Pv.Lit st y (.int .u64 16777215)) (hd : n d = true) : Step P n ⟨some d, .binOp .and T x y T', ty, pos, aft, g⟩ nid st (rdOf x ++ rdOf y) [(d, .c (.lit (.int .u64 (and24 a))))] :=
 step_bin hx hy rfl (fun w => by simp [eqGuard_int, binOp]; exact run_and24 a w) hd
end
attribute [local irreducible] wr shr33 and24
abbrev dSr (l : List Int) (a h : Int) : D := .pt true [.sl false 1 (bytes l), .lit (.int .i64 a), .lit (.int .u64 h)]
def hsh (l : List Int) : Nat → Int
 | 0 => wr (9341 + wr l.length)
 | j + 1 => wr (wr (wr (hsh l j * 1099511628211) + wr (l.getD (j * 1) 0)) + 11)
theorem hsh_in (l : List Int) : ∀ j, 0 ≤ hsh l j ∧ hsh l j ≤ 18446744073709551615
 | 0 => wr_in _
 | j + 1 => wr_in _
theorem from_c' (l : List Int) (hl : l.length ≤ 9223372036854775807) : ∃ h : Int, (0 ≤ h ∧ h ≤ 18446744073709551615) ∧ CallS Tryz.prog 60 [aBy l] [.one (dSr l 0 h)] [] := by
 refine ⟨hsh l (min l.length 4096), hsh_in _ _, ?_⟩
 refine callS_of _ Tryz.func60 rfl Tryz.ntmps60 ?_
 repeat' (first | (refine Two.mk ?_ ?_ <;> intro _) | (guard_target =~ IsN; first | refine RunU.cons (step_conv_u rfl rfl) ?_ | refine RunU.cons (step_add_u rfl rfl rfl) ?_) | refine goA ?_ | (guard_target =~ IsG; first | refine psA ?_ | refine gdA ?_) | refine nxA ?_ | refine Done.ret (.one rA_ .nil) (.sh .nil) ?_ rfl)
 refine WpA.loop_slots2 (fun j id => [(0, .c (.sl false 1 (bytes l))), (3, .own id (dSr l 0 (hsh l j))), (4, .c (.lit (.int .i64 j)))]) (fun j => j ≤ l.length ∧ j ≤ 4096) (fun j => l.length - j) 0 _ ⟨by omega, by omega⟩ ⟨rfl, rfl, rfl, trivial⟩ ?_
 rintro j id s nx ⟨hj, hj2⟩
 by_cases hlt : j < l.length ∧ j < 4096
 ·repeat' (first | (refine Two.mk ?_ ?_ <;> intro _) | (guard_target =~ IsN; first | refine RunU.cons (step_conv_u rfl rfl) ?_ | refine RunU.cons (step_add_u rfl rfl rfl) ?_ | refine RunU.cons (step_mul_u rfl rfl rfl) ?_ | refine RunU.cons (step_load_sh rfl (bytes_get (by omega)) rfl) ?_) | refine goA ?_ | (guard_target =~ IsG; first | refine psA ?_ | refine gdA ?_) | refine nxA ?_ | refine Done.ret (.one rA_ .nil) (.sh .nil) ?_ rfl)
  all_goals try (exfalso; omega)
  all_goals exact ⟨j + 1, ⟨by omega, by omega⟩, ⟨_, rfl, rfl, int_eq (by omega), trivial⟩, by omega⟩
 ·have ej : j = min l.length 4096 := by omega
  rw [← ej]
  repeat' (first | (refine Two.mk ?_ ?_ <;> intro _) | refine goA ?_ | (guard_target =~ IsG; first | refine psA ?_ | refine gdA ?_) | refine nxA ?_ | refine Done.ret (.one rA_ .nil) (.sh .nil) ?_ rfl)
  all_goals first | rfl | (exfalso; omega)
theorem next_c' (l : List Int) (hl : l.length ≤ 9223372036854775807) (hb : ∀ i, 0 ≤ l.getD i 0 ∧ l.getD i 0 ≤ 255) (a h n : Int) (ha : 0 ≤ a ∧ a ≤ l.length) : ∃ (x a' h' : Int), (0 ≤ x ∧ (n < 1 → x = 0) ∧ (1 ≤ n → x < n)) ∧ (0 ≤ a' ∧ a' ≤ l.length) ∧
  CallNS Tryz.prog 65 (dSr l a h) [aI n] [rI x] (dSr l a' h') := by
 by_cases hn : n < 1
 ·refine ⟨0, a, h, ⟨by omega, fun _ => rfl, fun _ => by omega⟩, ha, ?_⟩
  refine cN_ _ Tryz.func65 rfl Tryz.ntmps65 ?_
  repeat' (first | (refine Two.mk ?_ ?_ <;> intro _) | refine goA ?_ | refine nxA ?_ | ((first | refine DoneN.ret (.one rA_ .nil) rfl ?_ ?_ | refine DoneN.normal (.one rA_ .nil) rfl ?_ ?_) <;> try exact rfl))
  all_goals first | rfl | (exfalso; omega)
 ·have hp := and24_in (shr33 (wr (wr (h * 6364136223846793005) + 1442695040888963407)))
  by_cases hlt : a < l.length
  ·have hbb := hb (a.toNat * 1)
   refine ⟨(and24 (shr33 (wr (wr (h * 6364136223846793005) + 1442695040888963407))) + l.getD (a.toNat * 1) 0) % n, a + 1, wr (wr (h * 6364136223846793005) + 1442695040888963407), ⟨Int.emod_nonneg _ (by omega), fun h => absurd h hn, fun _ => Int.emod_lt_of_pos _ (by omega)⟩, by omega, ?_⟩
   refine cN_ _ Tryz.func65 rfl Tryz.ntmps65 ?_
   repeat' (first | (refine Two.mk ?_ ?_ <;> intro _) | (guard_target =~ IsN; first | refine RunU.cons (step_add_u rfl rfl rfl) ?_ | refine RunU.cons (step_mul_u rfl rfl rfl) ?_ | refine RunU.cons (step_shr33 rfl rfl rfl) ?_ | refine RunU.cons (step_and24 rfl rfl rfl) ?_ | refine RunU.cons (step_load_sh rfl (bytes_get (by omega)) rfl) ?_) | refine goA ?_ | refine nxA ?_ | ((first | refine DoneN.ret (.one rA_ .nil) rfl ?_ ?_ | refine DoneN.normal (.one rA_ .nil) rfl ?_ ?_) <;> try exact rfl))
   all_goals first | rfl | (exfalso; omega)
  ·refine ⟨and24 (shr33 (wr (wr (h * 6364136223846793005) + 1442695040888963407))) % n, a, wr (wr (h * 6364136223846793005) + 1442695040888963407), ⟨Int.emod_nonneg _ (by omega), fun h => absurd h hn, fun _ => Int.emod_lt_of_pos _ (by omega)⟩, ha, ?_⟩
   refine cN_ _ Tryz.func65 rfl Tryz.ntmps65 ?_
   repeat' (first | (refine Two.mk ?_ ?_ <;> intro _) | (guard_target =~ IsN; first | refine RunU.cons (step_add_u rfl rfl rfl) ?_ | refine RunU.cons (step_mul_u rfl rfl rfl) ?_ | refine RunU.cons (step_shr33 rfl rfl rfl) ?_ | refine RunU.cons (step_and24 rfl rfl rfl) ?_) | refine goA ?_ | refine nxA ?_ | ((first | refine DoneN.ret (.one rA_ .nil) rfl ?_ ?_ | refine DoneN.normal (.one rA_ .nil) rfl ?_ ?_) <;> try exact rfl))
   all_goals first | rfl | (exfalso; omega)
theorem pick_c (l : List Int) (hl : l.length ≤ 9223372036854775807) (hb : ∀ i, 0 ≤ l.getD i 0 ∧ l.getD i 0 ≤ 255) (a h : Int) (L : List Int) (h1 : 1 ≤ L.length ∧ L.length ≤ 1000) (ha : 0 ≤ a ∧ a ≤ l.length) : ∃ (i : Nat) (a' h' : Int), i < L.length ∧ (0 ≤ a' ∧ a' ≤ l.length) ∧
  CallNS Tryz.prog 93 (dSr l a h) [.mv (.one (.sl true 1 (ints L)))] [rI (L.getD i 0)] (dSr l a' h') := by
 obtain ⟨x, a', h', ⟨q1, _, q3⟩, q4, hN⟩ := next_c' l hl hb a h L.length ha
 refine ⟨x.toNat * 1, a', h', by omega, q4, ?_⟩
 refine cN_ _ Tryz.func93 rfl Tryz.ntmps93 ?_
 repeat' (first | (refine Two.mk ?_ ?_ <;> intro _) | (guard_target =~ CallN_; first | refine RunU.cons (sI_ (hN) iA (.sh .nil) (.sh lcA .nil) xR_ xR_ rfl) ?_) | refine goA ?_ | refine nxA ?_ | ((first | refine DoneN.ret (.one rA_ .nil) rfl ?_ ?_ | refine DoneN.normal (.one rA_ .nil) rfl ?_ ?_) <;> try exact rfl))
 all_goals first | rfl | (exfalso; omega)
end Go.Proofs.YtmgmpnhlehonmaaGreat
namespace Go.Pv
open Go.RowKit
section
variable {P : Program} {n : NN} {nid : Nat} {st : Nat → AV} {f : Fr} {X : Nat → Prop} {a : Act} {w : World} {ρ : Nat → Rho} {L : Nat → List Nat} {M : List Nat}
theorem res_slot {F : Nat → Prop} {w : World} {rs : List V} {us : List Value} {Lr : List Nat} {nid : Nat} (ρ : Nat → Rho) (hv : VRs F w rs us Lr) :
  ∃ ρ2 : Nat → Rho, (∀ i, i ≠ nid → ρ2 i = ρ i) ∧ SR F w ρ2 (resAV nid rs) (retVal us) Lr ∧ ∀ i ∈ (resAV nid rs).ids, i = nid := by
 have root : ∀ d, (resAV nid [V.one d] = .own nid d) → ∀ u r L1, RD F w d r u L1 → ∃ ρ2 : Nat → Rho, (∀ i, i ≠ nid → ρ2 i = ρ i) ∧ SR F w ρ2 (resAV nid [V.one d]) u L1 ∧ ∀ i ∈ (resAV nid [V.one d]).ids, i = nid := by
  intro d e u r L1 h
  refine ⟨fun i => if i = nid then r else ρ i, fun i hi => if_neg hi, ?_, fun i hi => ?_⟩
  ·rw [e]; simp only [SR, if_true]; exact h
  ·rw [e] at hi; simpa [AV.ids] using hi
 have hl := hv.length
 match rs, hv, hl with
 | [], hv, hl =>
  simp only [VRs] at hv
  obtain ⟨rfl, rfl⟩ := hv
  exact ⟨ρ, fun _ _ => rfl, by simp only [resAV, SR], fun i hi => by simp [resAV, AV.ids] at hi⟩
 | [.one (.lit u)], hv, hl =>
  simp only [VRs] at hv
  obtain ⟨u', us', L1, L2, rfl, rfl, ⟨r, h1⟩, rfl, rfl⟩ := hv
  simp only [RD] at h1
  obtain ⟨rfl, h2, rfl⟩ := h1
  exact ⟨ρ, fun _ _ => rfl, by simp only [resAV, SR, RD, retVal]; exact ⟨rfl, fun _ => undef, trivial, h2, trivial⟩, fun i hi => by simp [resAV, AV.ids] at hi⟩
 | [.one (.sl o sz cs)], hv, hl =>
  simp only [VRs] at hv
  obtain ⟨u', us', L1, L2, rfl, rfl, ⟨r, h1⟩, rfl, rfl⟩ := hv
  rw [List.append_nil]
  exact root _ rfl _ r _ h1
 | [.one (.pt o cs)], hv, hl =>
  simp only [VRs] at hv
  obtain ⟨u', us', L1, L2, rfl, rfl, ⟨r, h1⟩, rfl, rfl⟩ := hv
  rw [List.append_nil]
  exact root _ rfl _ r _ h1
 | [.one .hole], hv, hl =>
  simp only [VRs] at hv
  obtain ⟨u', us', L1, L2, rfl, rfl, ⟨r, h1⟩, rfl, rfl⟩ := hv
  rw [List.append_nil]
  exact root _ rfl _ r _ h1
 | [.one (.fn g cs)], hv, hl =>
  simp only [VRs] at hv
  obtain ⟨u', us', L1, L2, rfl, rfl, ⟨r, h1⟩, rfl, rfl⟩ := hv
  rw [List.append_nil]
  exact root _ rfl _ r _ h1
 | [.agg ds], hv, hl =>
  simp only [VRs] at hv
  obtain ⟨u', us', L1, L2, rfl, rfl, h1, rfl, rfl⟩ := hv
  refine ⟨ρ, fun _ _ => rfl, ?_, fun i hi => by simp only [resAV, AV.ids, idss_raws] at hi; simp at hi⟩
  have := SR_av (ρ := ρ) h1
  simpa [V.av, retVal, resAV] using this
 | v1 :: v2 :: vs, hv, hl =>
  have e : resAV nid (v1 :: v2 :: vs) = .tup ((v1 :: v2 :: vs).map V.av) := rfl
  rw [e]
  refine ⟨ρ, fun _ _ => rfl, ?_, fun i hi => by simp only [AV.ids, idss_avs] at hi; simp at hi⟩
  simp only [SR]
  refine ⟨us, ?_, SRs_avs _ us Lr hv⟩
  match us, hl with
  | [u], hl => simp at hl
  | [], hl => simp at hl
  | u1 :: u2 :: us', _ => rfl
theorem sV_ {d0 : Nat} {K : FuncId} {x : Operand} {xs : List Operand} {ts : Array TypeId} {args : List Arg} {rs : List V} {d d' dd : D} {xr id : Nat} {path rd rd1 rd2 : List Nat} {up : List (Nat × AV)} {ty pos aft g} [FnOk P K]
  (hc : CallNS P K d args rs d') (hi : IoAt st x xr id path dd d rd) (hm : Moves (put st xr (.own id (dd.put path .hole))) xs args rd1 up) (hr : ReadsF (puts (put st xr (.own id (dd.put path .hole))) up) xs args rd2)
  (hx : puts (put st xr (.own id (dd.put path .hole))) up xr = .own id (dd.put path .hole)) (hne : (d0 == xr) = false) (hd : n d0 = true) :
  Step P n ⟨some d0, .call ⟨.value (.func K), (x :: xs).toArray, ts⟩, ty, pos, aft, g⟩ nid st (rd ++ (rd1 ++ rd2)) ((xr, .own id (dd.put path .hole)) :: (up ++ [(d0, resAV nid rs), (xr, .own id (dd.put path d'))])) := by
 intro X st' hs hX f a w hn hrep Kk Q hK
 obtain ⟨ρ, L, h⟩ := hrep
 subst hn
 have hne : d0 ≠ xr := by simpa using hne
 have hi' := hi.agree (st' := st') fun s hs' => hs s (List.mem_append_left _ hs')
 have ag : ∀ s, st' s = st s → put st' xr (.own id (dd.put path .hole)) s = put st xr (.own id (dd.put path .hole)) s := fun s e => by unfold put; split <;> simp_all
 have hm' := hm.agree (st' := put st' xr (.own id (dd.put path .hole))) fun s hs' => ag s (hs s (by simp [hs']))
 have hidX : X id := by
  have := h.ids xr
  rw [hi'.own.1] at this
  exact this id (by simp [AV.ids])
 obtain ⟨L0, M0, h0, hv0⟩ := h.toM.lendN hi'
 obtain ⟨L', M1, h1, h2⟩ := h0.moves hm'
 simp only [puts] at hK
 rw [puts_append] at hK
 rw [List.nil_append] at h1
 have hr' := hr.agree (st' := puts (put st' xr (.own id (dd.put path .hole))) up) fun s hs' => puts_agree _ _ (ag s (hs s (by simp [hs'])))
 have h3 := args_ofF h1 h2 hr'
 have hx' : puts (put st' xr (.own id (dd.put path .hole))) up xr = .own id (dd.put path .hole) := by
  exact (puts_agree up xr (by simp [put])).trans hx
 refine wp_of_enter (run_call a.eval rfl w) ?_
 have e : (x :: xs).toArray.map a.eval = (a.eval x :: xs.map a.eval).toArray := by simp
 rw [e]
 refine (hc w _ _ M0 M1 f.F ((ρ id).sub path) (fun g hg => ⟨h1.rep.F_lt hg, fun hm => (h1.bound g hm).2 hg⟩) hv0 h3 h1.nd (fun g hg => (h1.bound g hg).1)).mono ?_
 rintro e w' ⟨us, Lr, Lo, rfl, hk, hv, hout, hnd, hL⟩
 have hv := hv.same (F' := f.F) (fun g (hg : Res false f.F g) => hg.2) (fun _ _ => rfl) (fun _ _ => rfl)
 obtain ⟨ρ2, q1, q2, q3⟩ := res_slot (nid := nid) ρ hv
 rw [List.nodup_append] at hnd
 obtain ⟨ndr, ndo, dro⟩ := hnd
 have hidn : id ≠ nid := fun e => hX (e ▸ hidX)
 refine ⟨_, rfl, ?_⟩
 have hxs := h1.rep.slots xr
 rw [hx'] at hxs
 simp only [SR] at hxs
 have hnav := nav_put path dd d .hole hi.own.2.1
 obtain ⟨v1, A, L1, B, eL, h5, hset⟩ := RD.focus path _ _ _ _ hxs .hole hnav
 simp only [RD] at h5
 obtain ⟨hv1, _, rfl⟩ := h5
 have hev : a.eval x = v1 := by rw [hv1, Rho.sub_nil]; exact hi'.eval h
 rw [hev] at hout
 have hFs : ∀ g, f.F g → Same w w' g := fun g hg => hk.block g (h1.rep.F_lt hg) (fun hm => (h1.bound g hm).2 hg)
 have hLx : ∀ t, ∀ g ∈ L' t, Same w w' g := fun t g hg => hk.block g (h1.rep.bound t g hg).1 (h1.disj t g hg)
 have hfin := hset w' d' ((ρ id).sub path) Lo hFs (fun g hg => hLx xr g (by rw [eL]; rcases hg with hg | hg <;> simp [hg])) (RD.same (fun g (hg : Res false f.F g) => hg.2) (fun _ _ => rfl) d' _ _ Lo hout (fun _ _ => rfl))
 rw [put_put path dd d .hole d' hi.own.2.1, Rho.set_sub] at hfin
 refine hK _ _ ⟨ρ2, fun s => if s = xr then A ++ (Lo ++ B) else if s = d0 then Lr else L' s, ?_⟩
 have hL0 : ∀ g ∈ Lo, g ∉ L' xr := fun g hg hg' => by
  rcases (hL g (by simp [hg])).2 with h | h
  ·exact h1.disj xr g hg' h
  ·have := (h1.rep.bound xr g hg').1; omega
 have hndx := h1.rep.nodup xr
 rw [eL] at hndx
 have hst : ∀ s, s ≠ xr → s ≠ d0 → puts (puts (put st' xr (.own id (dd.put path .hole))) up) [(d0, resAV nid rs), (xr, .own id (dd.put path d'))] s = puts (put st' xr (.own id (dd.put path .hole))) up s := fun s h1 h2 => by
  simp only [puts]; rw [put_other _ _ _ _ h1, put_other _ _ _ _ h2]
 refine h1.step (fun s => s = xr ∨ s = d0) (M0 ++ M1) _ _ _ w' _ _ (put_defers _ _ _) (put_size _ _ _) (hold_put _ hd) hk (fun g hg => .inr hg) (fun i hi => q1 i (fun e => hX (e ▸ hi))) (fun s hs' => ?_) (fun s hs' => ?_) (fun s u hs' hu hsu g hg hgu => ?_) (fun _ h => .inl h) (fun s hs' i hi => ?_)
 ·simp only [not_or] at hs'
  exact ⟨hst s hs'.1 hs'.2, tmp_put_other _ _ _ _ hs'.2, by simp [hs'.1, hs'.2]⟩
 ·by_cases hsx : s = xr
  ·subst hsx
   rw [if_pos rfl, tmp_put_other _ _ _ _ (Ne.symm hne)]
   simp only [puts, put_same, SR]
   rw [q1 id hidn]
   refine ⟨hfin, ?_, fun g hg => ?_⟩
   ·have hd2 : ∀ g ∈ Lo, g ∉ A ∧ g ∉ B := fun g hg => by
     have := hL0 g hg
     rw [eL] at this
     simp only [List.mem_append, not_or] at this
     exact ⟨this.1, this.2.2⟩
    simp only [List.nodup_append, List.mem_append] at hndx ⊢
    grind
   ·simp only [List.mem_append] at hg
    rcases hg with hg | hg | hg
    ·have : g ∈ L' s := by rw [eL]; simp [hg]
     exact ⟨Nat.lt_of_lt_of_le (h1.rep.bound s g this).1 hk.size, .inl ⟨s, .inl rfl, this⟩⟩
    ·exact ⟨(hL g (by simp [hg])).1, .inr (hL g (by simp [hg])).2⟩
    ·have : g ∈ L' s := by rw [eL]; simp [hg]
     exact ⟨Nat.lt_of_lt_of_le (h1.rep.bound s g this).1 hk.size, .inl ⟨s, .inl rfl, this⟩⟩
  ·have hs0 : s = d0 := hs'.resolve_left hsx
   subst hs0
   rw [if_neg hsx, if_pos rfl, tmp_put_same _ _ _ (h1.rep.size _ hd)]
   simp only [puts]
   rw [put_other _ _ _ _ hsx, put_same]
   exact ⟨q2, ndr, fun g hg => ⟨(hL g (by simp [hg])).1, .inr (hL g (by simp [hg])).2⟩⟩
 ·have hLrB : ∀ t, t = xr → ∀ g ∈ A ++ (Lo ++ B), g ∉ Lr := fun t et g hg hgr => by
   simp only [List.mem_append] at hg
   have old : g ∈ L' xr → False := fun hx => by
    rcases (hL g (by simp [hgr])).2 with h | h
    ·exact h1.disj xr g hx h
    ·have := (h1.rep.bound xr g hx).1; omega
   rcases hg with hg | hg | hg
   ·exact old (by rw [eL]; simp [hg])
   ·exact dro g hgr g hg rfl
   ·exact old (by rw [eL]; simp [hg])
  by_cases hsx : s = xr
  ·have hu0 : u ≠ xr := fun e => hsu (hsx.trans e.symm)
   have hu' : u = d0 := hu.resolve_left hu0
   rw [if_neg hu0, if_pos hu'] at hgu
   rw [if_pos hsx] at hg
   exact hLrB s hsx g hg hgu
  ·have hs0 : s = d0 := hs'.resolve_left hsx
   rw [if_neg hsx, if_pos hs0] at hg
   have hux : u = xr := hu.resolve_right fun e => hsu (hs0.trans e.symm)
   rw [if_pos hux] at hgu
   exact hLrB u hux g hgu hg
 ·by_cases hsx : s = xr
  ·subst hsx
   simp only [puts, put_same, AV.ids, List.mem_singleton] at hi
   exact .inl (by rw [hi]; exact hidX)
  ·have hs0 : s = d0 := hs'.resolve_left hsx
   subst hs0
   simp only [puts] at hi
   rw [put_other _ _ _ _ hsx, put_same] at hi
   exact .inr (q3 i hi)
end
end Go.Pv
namespace Go.Proofs.YtmgmpnhlehonmaaGreat
set_option maxHeartbeats 20000000
open Go.Pv
open Go.ChangeShapes Go.WideShapes Go.ChangeAt Go.RowKit
attribute [local irreducible] RunU WpA Step CallG CallNG Done DoneN
attribute [local irreducible] decStrict decFalls decIsBr decWithin Strict Falls IsBr Within
instance fnOk227 : FnOk Tryz.prog 227 := ⟨_, Tryz.func227, rfl, by decide⟩
theorem specIsBr_c (l : List Int) (hl : l.length ≤ 1000000000) : CallA Tryz.prog 227 [.sh (.agg [.sl false 1 (ints l)])] [rB (decide (IsBr l))] [] := by
 have hiff := isBr_iff l
 refine cA_ _ Tryz.func227 rfl Tryz.ntmps227 sO_ ?_
 by_cases h0 : 0 < l.length
 ·by_cases h1 : 1 ≤ l.getD 0 0 ∧ l.getD 0 0 ≤ 64
  ·have hd1 : l.getD 0 0 = divTo l 1 := by
    simp only [divTo, Int.gcd_zero_left]
    omega
   have hge := divTo_ge (l := l) (by omega)
   have hle : ∀ j, divTo l (j + 1) ≤ 64 := by
    intro j
    induction j with
    | zero => show divTo l 1 ≤ 64; omega
    | succ j ih =>
     have := divTo_down (l := l) (by omega) j
     omega
   repeat' (first | (refine Two.mk ?_ ?_ <;> intro _) | (guard_target =~ CallN_; first | refine RunU.cons (sC_ (l01In_c _ _ _) (.sh (.sh (.sh .nil))) (.sh wS_ (.sh wS_ (.sh wS_ .nil))) rfl) ?_) | refine goA ?_ | (guard_target =~ IsG; first | refine psA ?_ | (guard_target =~ CallS_; first | refine RunU.doit rfl rfl (sC_ (l01In_c _ _ _) (.sh (.sh (.sh .nil))) (.sh wS_ (.sh wS_ (.sh wS_ .nil))) rfl) ?_) | refine gdA ?_) | refine nxA ?_ | refine Done.ret (.one rA_ .nil) (.sh .nil) ?_ rfl)
   all_goals try (exfalso; omega)
   all_goals try (exact absurd h1 ‹_›)
   refine WpA.loop_slots (ι := Nat) (fun j => [(3, vL l), (4, vI (divTo l (j + 1))), (5, vI ((j : Int) + 1))]) (fun j => j + 1 ≤ l.length ∧ (1 ≤ l.getD j 0 ∧ l.getD j 0 ≤ 2000) ∧ ∀ i, i < j + 1 → 0 < i → (l.getD (i - 1) 0 + 1 ≤ l.getD i 0 ∧ l.getD i 0 ≤ 2000) ∧ divTo l (i + 1) ≠ divTo l i) (fun j => l.length - j) 0 ⟨by omega, by omega, fun i h1 h2 => absurd h1 (by omega)⟩ ⟨rfl, int_eq hd1, rfl, trivial⟩ ?_
   intro j s nx hj
   have e1 : (j + 1) * 1 = j + 1 := by omega
   have e2 : ((j : Int) + 1 - 1).toNat * 1 = j := by omega
   have hj2 := hj.2.1
   have hgj := hge j
   have hlj := hle j
   by_cases hlt : j + 1 < l.length
   ·rw [← e2] at hj2
    repeat' (first | (refine Two.mk ?_ ?_ <;> intro _) | (guard_target =~ CallN_; first | refine RunU.cons (sC_ (l01In_c _ _ _) (.sh (.sh (.sh .nil))) (.sh wS_ (.sh wS_ (.sh wS_ .nil))) rfl) ?_ | refine RunU.cons (sC_ (gcd_c (divTo l (j + 1)) (l.getD ((j + 1) * 1) 0) (by omega) (by omega)) (.sh (.sh .nil)) (.sh wS_ (.sh wS_ .nil)) rfl) ?_) | refine goA ?_ | (guard_target =~ IsG; first | refine psA ?_ | (guard_target =~ CallS_; first | refine RunU.doit rfl rfl (sC_ (l01In_c _ _ _) (.sh (.sh (.sh .nil))) (.sh wS_ (.sh wS_ (.sh wS_ .nil))) rfl) ?_ | refine RunU.doit rfl rfl (sC_ (gcd_c (divTo l (j + 1)) (l.getD ((j + 1) * 1) 0) (by omega) (by omega)) (.sh (.sh .nil)) (.sh wS_ (.sh wS_ .nil)) rfl) ?_) | refine gdA ?_) | refine nxA ?_ | refine Done.ret (.one rA_ .nil) (.sh .nil) ?_ rfl)
    all_goals try (exfalso; omega)
    case refine_1.refine_1 h3 h4 =>
     rw [e1, e2] at h4
     have : ¬ IsBr l := fun hb => by
      have := ((hiff.1 hb).2.2.1 (j + 1) hlt (by omega)).1
      simp only [Nat.add_sub_cancel] at this
      exact h4 this
     simp [this]
    case refine_1.refine_2.refine_1 h3 h4 h5 =>
     rw [e1] at h5
     have : ¬ IsBr l := fun hb => ((hiff.1 hb).2.2.1 (j + 1) hlt (by omega)).2 h5
     simp [this]
    case refine_1.refine_2.refine_2 h3 h4 h5 =>
     rw [e1, e2] at h4
     rw [e1] at h5
     rw [e2] at hj2
     refine ⟨j + 1, ⟨by omega, by omega, fun i hi h0' => ?_⟩, ⟨rfl, int_eq (by rw [e1]; rfl), int_eq (by omega), trivial⟩, by omega⟩
     by_cases e : i = j + 1
     ·subst e; simp only [Nat.add_sub_cancel]; exact ⟨h4, h5⟩
     ·exact hj.2.2 i (by omega) h0'
   ·have hl1 : j + 1 = l.length := by omega
    have hb : IsBr l ↔ divTo l (j + 1) = 1 := by
     rw [hiff, hl1]
     exact ⟨fun q => q.2.2.2, fun q => ⟨h0, h1, fun i hi h0' => hj.2.2 i (by omega) h0', q⟩⟩
    repeat' (first | (refine Two.mk ?_ ?_ <;> intro _) | refine goA ?_ | (guard_target =~ IsG; first | refine psA ?_ | refine gdA ?_) | refine nxA ?_ | refine Done.ret (.one rA_ .nil) (.sh .nil) ?_ rfl)
    all_goals try (exfalso; omega)
    simp [hb]
  ·have hn : ¬ IsBr l := fun hb => h1 (hiff.1 hb).2.1
   repeat' (first | (refine Two.mk ?_ ?_ <;> intro _) | (guard_target =~ CallN_; first | refine RunU.cons (sC_ (l01In_c _ _ _) (.sh (.sh (.sh .nil))) (.sh wS_ (.sh wS_ (.sh wS_ .nil))) rfl) ?_) | refine goA ?_ | (guard_target =~ IsG; first | refine psA ?_ | (guard_target =~ CallS_; first | refine RunU.doit rfl rfl (sC_ (l01In_c _ _ _) (.sh (.sh (.sh .nil))) (.sh wS_ (.sh wS_ (.sh wS_ .nil))) rfl) ?_) | refine gdA ?_) | refine nxA ?_ | refine Done.ret (.one rA_ .nil) (.sh .nil) ?_ rfl)
   all_goals try (exfalso; omega)
   all_goals try (exact absurd ‹_› h1)
   all_goals simp [hn]
 ·have hn : ¬ IsBr l := fun hb => h0 (hiff.1 hb).1
  repeat' (first | (refine Two.mk ?_ ?_ <;> intro _) | refine goA ?_ | (guard_target =~ IsG; first | refine psA ?_ | refine gdA ?_) | refine nxA ?_ | refine Done.ret (.one rA_ .nil) (.sh .nil) ?_ rfl)
  all_goals try (exfalso; omega)
  all_goals simp [hn]
end Go.Proofs.YtmgmpnhlehonmaaGreat
namespace Go.Proofs.YtmgmpnhlehonmaaGreat
set_option maxHeartbeats 20000000
open Go.Pv
open Go.ChangeShapes Go.WideShapes Go.ChangeAt Go.RowKit
attribute [local irreducible] RunU WpA Step CallG CallNG Done DoneN
instance fnOk226 : FnOk Tryz.prog 226 := ⟨_, Tryz.func226, rfl, by decide⟩
instance fnOk229 : FnOk Tryz.prog 229 := ⟨_, Tryz.func229, rfl, by decide⟩
instance fnOk206 : FnOk Tryz.prog 206 := ⟨_, Tryz.func206, rfl, by decide⟩
instance fnOk228 : FnOk Tryz.prog 228 := ⟨_, Tryz.func228, rfl, by decide⟩
instance fnOk214 : FnOk Tryz.prog 214 := ⟨_, Tryz.func214, rfl, by decide⟩
attribute [local irreducible] decStrict decFalls decIsBr decWithin Strict Falls IsBr Within
theorem same_ext {a b : List Int} (h : a.length = b.length) (e : ∀ i, i < a.length → a.getD i 0 = b.getD i 0) : a = b := list_ext h e
theorem sameD_c (l m : List Int) (hl : l.length ≤ 1000000000) (hm : m.length ≤ 1000000000) : CallA Tryz.prog 206 [aL l, aL m] [rB (decide (l = m))] [] := by
 by_cases hlen : l.length = m.length
 ·refine cA_ _ Tryz.func206 rfl Tryz.ntmps206 sO_ ?_
  repeat' (first | (refine Two.mk ?_ ?_ <;> intro _) | refine goA ?_ | refine nxA ?_ | refine Done.ret (.one rA_ .nil) (.sh (.sh .nil)) ?_ rfl)
  all_goals try (exfalso; omega)
  refine WpA.loop_slots (ι := Nat) (fun j => [(0, .c (.sl false 1 (ints l))), (1, .c (.sl false 1 (ints m))), (5, vI j)]) (fun j => j ≤ l.length ∧ ∀ k, k < j → l.getD k 0 = m.getD k 0) (fun j => l.length - j) 0 ⟨by omega, fun k hk => by omega⟩ ⟨rfl, rfl, rfl, trivial⟩ ?_
  rintro j s nx ⟨h1, h2⟩
  by_cases hlt : j < l.length
  ·by_cases e : l.getD (j * 1) 0 = m.getD (j * 1) 0
   ·repeat' (first | (refine Two.mk ?_ ?_ <;> intro _) | refine goA ?_ | refine nxA ?_ | refine Done.ret (.one rA_ .nil) (.sh (.sh .nil)) ?_ rfl)
    all_goals try (exfalso; simp_all; done)
    all_goals try (exfalso; omega)
    refine ⟨j + 1, ⟨by omega, fun k hk => ?_⟩, ⟨rfl, rfl, int_eq (by omega), trivial⟩, by omega⟩
    by_cases e2 : k = j
    ·rw [Nat.mul_one] at e; rw [e2]; exact e
    ·exact h2 k (by omega)
   ·rw [decide_eq_false (fun h => e (by rw [h]))]
    clear h2
    repeat' (first | (refine Two.mk ?_ ?_ <;> intro _) | refine goA ?_ | refine nxA ?_ | refine Done.ret (.one rA_ .nil) (.sh (.sh .nil)) ?_ rfl)
    all_goals first | rfl | (exfalso; simp_all; done) | (exfalso; omega)
  ·rw [decide_eq_true (same_ext hlen fun k hk => h2 k (by omega))]
   clear h2
   repeat' (first | (refine Two.mk ?_ ?_ <;> intro _) | refine goA ?_ | refine nxA ?_ | refine Done.ret (.one rA_ .nil) (.sh (.sh .nil)) ?_ rfl)
   all_goals first | rfl | (exfalso; omega)
 ·rw [decide_eq_false (fun h => hlen (by rw [h]))]
  refine cA_ _ Tryz.func206 rfl Tryz.ntmps206 sO_ ?_
  repeat' (first | (refine Two.mk ?_ ?_ <;> intro _) | refine goA ?_ | refine nxA ?_ | refine Done.ret (.one rA_ .nil) (.sh (.sh .nil)) ?_ rfl)
  all_goals first | rfl | (exfalso; omega)
theorem sameD2_c (A B : List (List Int)) (hA : A.length ≤ 100000) (hB : B.length ≤ 100000) (ha : ∀ i, (A.getD i []).length ≤ 1000) (hb : ∀ i, (B.getD i []).length ≤ 1000) : CallA Tryz.prog 228 [aLL A, aLL B] [rB (decide (A = B))] [] := by
 refine cA_ _ Tryz.func228 rfl Tryz.ntmps228 sO_ ?_
 repeat' (first | (refine Two.mk ?_ ?_ <;> intro _) | refine goA ?_ | refine nxA ?_ | refine Done.ret (.one rA_ .nil) (.sh (.sh .nil)) ?_ rfl)
 case refine_1 h => simp; intro e; subst e; exact h rfl
 case refine_2 h =>
  have hab : A.length = B.length := by omega
  refine WpA.loop_slots (ι := Nat) (fun j => [(0, .c (.sl false 1 (LLs A))), (1, .c (.sl false 1 (LLs B))), (5, .c (.lit (.int .i64 (j : Int))))]) (fun j => j ≤ A.length ∧ ∀ i, i < j → A.getD i [] = B.getD i []) (fun j => A.length - j) 0 (by simp) ⟨rfl, rfl, rfl, trivial⟩ ?_
  intro j s nx hj
  have h1 := ha (j * 1)
  have h2 := hb (j * 1)
  repeat' (first | (refine Two.mk ?_ ?_ <;> intro _) | (guard_target =~ CallN_; first | refine RunU.cons (sC_ (sameD_c (A.getD (j * 1) []) (B.getD (j * 1) []) (by omega) (by omega)) (.sh (.sh .nil)) (.sh wS_ (.sh wS_ .nil)) rfl) ?_) | refine goA ?_ | refine nxA ?_ | refine Done.ret (.one rA_ .nil) (.sh (.sh .nil)) ?_ rfl)
  case refine_1.refine_1 h3 h4 =>
   simp
   intro e; subst e; exact h4 rfl
  case refine_1.refine_2 h3 h4 =>
   refine ⟨j + 1, ⟨by omega, fun i hi => ?_⟩, ⟨rfl, rfl, int_eq (by omega), trivial⟩, by omega⟩
   by_cases e : i = j
   ·subst e; simpa using h4
   ·exact hj.2 i (by omega)
  case refine_2 h3 =>
   have : A = B := listL_ext hab fun i hi => hj.2 i (by omega)
   simp [this]
def pr2 (ps : List (List Int)) : Nat → Int
 | 0 => 1
 | j + 1 => pr2 ps j * (ps.getD j []).getD 1 0
structure GoodP (ps : List (List Int)) : Prop where
 len : ps.length ≤ 3
 row : ∀ i, i < ps.length → (ps.getD i []).length = 2
 v1 : ∀ i, i < ps.length → 1 ≤ (ps.getD i []).getD 0 0 ∧ (ps.getD i []).getD 0 0 ≤ 60
 v2 : ∀ i, i < ps.length → 1 ≤ (ps.getD i []).getD 1 0 ∧ (ps.getD i []).getD 1 0 ≤ 5
 pr : ∀ j, j ≤ ps.length → 1 ≤ pr2 ps j ∧ pr2 ps j ≤ 64
theorem pairsN_c (ps : List (List Int)) (h : GoodP ps) : CallA Tryz.prog 226 [aLL ps] [rI (pr2 ps ps.length)] [] := by
 have hl := h.len
 refine cA_ _ Tryz.func226 rfl Tryz.ntmps226 sO_ ?_
 repeat' (first | (refine Two.mk ?_ ?_ <;> intro _) | refine goA ?_ | (guard_target =~ IsG; first | refine psA ?_ | refine gdA ?_) | refine nxA ?_ | refine Done.ret (.one rA_ .nil) (.sh .nil) ?_ rfl)
 all_goals try (exfalso; omega)
 refine WpA.loop_slots (ι := Nat) (fun j => [(0, .c (.sl false 1 (LLs ps))), (3, vI (pr2 ps j)), (4, vI j)]) (fun j => j ≤ ps.length) (fun j => ps.length - j) 0 (by simp) ⟨rfl, rfl, rfl, trivial⟩ ?_
 intro j s nx hj
 by_cases hlt : j < ps.length
 ·have h1 := h.row (j * 1) (by omega)
  have h2 := h.v1 (j * 1) (by omega)
  have h3 := h.v2 (j * 1) (by omega)
  rw [← Nat.mul_one 0] at h2
  have h3 : 1 ≤ (ps.getD (j * 1) []).getD (1 * 1) 0 ∧ (ps.getD (j * 1) []).getD (1 * 1) 0 ≤ 5 := by simpa using h3
  have h4 := h.pr (j + 1) (by omega)
  have h5 : pr2 ps j * (ps.getD (j * 1) []).getD (1 * 1) 0 = pr2 ps (j + 1) := by simp [pr2]
  have hA := l01In_c ((ps.getD (j * 1) []).getD (0 * 1) 0) 1 2000
  have hB := l01In_c ((ps.getD (j * 1) []).getD (1 * 1) 0) 1 2000
  rw [decide_eq_true (by omega)] at hA hB
  rw [← h5] at h4
  repeat' (first | (refine Two.mk ?_ ?_ <;> intro _) | (guard_target =~ CallN_; first | refine RunU.cons (sC_ (hA) (.sh (.sh (.sh .nil))) (.sh wS_ (.sh wS_ (.sh wS_ .nil))) rfl) ?_ | refine RunU.cons (sC_ (hB) (.sh (.sh (.sh .nil))) (.sh wS_ (.sh wS_ (.sh wS_ .nil))) rfl) ?_) | refine goA ?_ | (guard_target =~ IsG; first | refine psA ?_ | (guard_target =~ CallS_; first | refine RunU.doit rfl rfl (sC_ (hA) (.sh (.sh (.sh .nil))) (.sh wS_ (.sh wS_ (.sh wS_ .nil))) rfl) ?_ | refine RunU.doit rfl rfl (sC_ (hB) (.sh (.sh (.sh .nil))) (.sh wS_ (.sh wS_ (.sh wS_ .nil))) rfl) ?_) | refine gdA ?_) | refine nxA ?_ | refine Done.ret (.one rA_ .nil) (.sh .nil) ?_ rfl)
  all_goals try (exfalso; omega)
  all_goals try (exfalso; simp_all; done)
  exact ⟨j + 1, by omega, ⟨rfl, int_eq h5, int_eq (by omega), trivial⟩, by omega⟩
 ·obtain rfl : j = ps.length := by omega
  repeat' (first | (refine Two.mk ?_ ?_ <;> intro _) | refine goA ?_ | (guard_target =~ IsG; first | refine psA ?_ | refine gdA ?_) | refine nxA ?_ | refine Done.ret (.one rA_ .nil) (.sh .nil) ?_ rfl)
  all_goals first | rfl | (exfalso; omega)
end Go.Proofs.YtmgmpnhlehonmaaGreat
namespace Go.Proofs.YtmgmpnhlehonmaaGreat
set_option maxRecDepth 100000
set_option maxHeartbeats 20000000
open Go.Pv
open Go.ChangeShapes Go.WideShapes Go.ChangeAt Go.RowKit
attribute [local irreducible] RunU WpA Step CallG CallNG Done DoneN
attribute [local irreducible] decStrict decFalls decIsBr decWithin Strict Falls IsBr Within
theorem tms_br {l : List Int} (h : IsBr l) : Tms l := by
 have h1 := (isBr_iff l).1 h
 obtain ⟨p, q, r, _⟩ := h1
 have hb : ∀ i, i < l.length → 0 ≤ l.getD i 0 ∧ l.getD i 0 ≤ 2000 := fun i => by
  induction i with
  | zero => intro _; omega
  | succ i ih =>
   intro hi
   have h2 := ih (by omega)
   have h3 := (r (i + 1) hi (by omega)).1
   rw [Nat.add_sub_cancel] at h3
   omega
 refine ⟨⟨by omega, ?_⟩, fun i => ?_, fun i hi => ?_, by omega⟩
 ·have hdn : ∀ j, j < l.length → divTo l (j + 1) ≤ 64 - j := fun j => by
   induction j with
   | zero =>
    intro _
    have : divTo l (0 + 1) = l.getD 0 0 := divTo_one (by omega)
    omega
   | succ j ih =>
    intro hj
    have h2 := ih (by omega)
    have h3 := (r (j + 1) hj (by omega)).2
    have h4 := divTo_down (l := l) (by omega) j
    omega
  have h5 := hdn (l.length - 1) (by omega)
  have h6 := divTo_ge (l := l) (by omega) (l.length - 1)
  omega
 ·by_cases hi : i < l.length
  ·exact hb i hi
  ·rw [List.getD_eq_getElem?_getD, List.getElem?_eq_none (by omega)]; simp
 ·have h3 := (r (i + 1) hi (by omega)).1
  rw [Nat.add_sub_cancel] at h3
  omega
def nwTo (l : List Int) : Nat → List (List Int)
 | 0 => []
 | j + 1 => nwTo l j ++ [[(l.getD (j + 1) 0 - (if j = 0 then 0 else l.getD j 0)) / (divs l l.length).getD (j + 1) 0, (divs l l.length).getD j 0 / (divs l l.length).getD (j + 1) 0]]
theorem nwTo_len (l : List Int) : ∀ j, (nwTo l j).length = j
 | 0 => rfl
 | j + 1 => by simp [nwTo, nwTo_len l j]
theorem nwTo_row (l : List Int) : ∀ (j i : Nat), ((nwTo l j).getD i []).length ≤ 1000
 | 0, i => by simp [nwTo]
 | j + 1, i => by
  have ih := nwTo_row l j i
  rw [nwTo]
  by_cases hi : i < j
  ·rw [List.getD_eq_getElem?_getD, List.getElem?_append_left (by rw [nwTo_len]; exact hi), ← List.getD_eq_getElem?_getD]; exact ih
  ·by_cases e : i = j
   ·rw [List.getD_eq_getElem?_getD, List.getElem?_append_right (by rw [nwTo_len]; omega), nwTo_len, e, Nat.sub_self]; simp
   ·rw [List.getD_eq_getElem?_getD, List.getElem?_eq_none (by simp [nwTo_len]; omega)]; simp
theorem newtonD_c (l : List Int) (h : IsBr l) : CallA Tryz.prog 229 [aBr1 l] [rLL (nwTo l (l.length - 1))] [] := by
 have ht := tms_br h
 have h0 := ht.pos
 have hge := divTo_ge (l := l) h0
 have hl := ht.len
 have hdl := divs_len l l.length
 have hd64 : ∀ i, i < l.length → 1 ≤ (divs l l.length).getD i 0 ∧ (divs l l.length).getD i 0 ≤ 64 := fun i hi => by
  rw [divs_at l _ i hi]
  refine ⟨hge i, ?_⟩
  have h1 : divTo l 1 ≤ 64 := by
   have := ((isBr_iff l).1 h).2.1
   rw [divTo_one (by omega)]; omega
  have : ∀ j, divTo l (j + 1) ≤ 64 := fun j => by
   induction j with
   | zero => exact h1
   | succ j ih => exact Int.le_trans (divTo_down h0 j) ih
  exact this i
 have hD := l03Divisors_c l ht
 have hR : ∀ j, nwTo l (j + 1) = nwTo l j ++ [[(l.getD (j + 1) 0 - (if j = 0 then 0 else l.getD j 0)) / (divs l l.length).getD (j + 1) 0, (divs l l.length).getD j 0 / (divs l l.length).getD (j + 1) 0]] := fun j => rfl
 generalize divs l l.length = E at *
 refine cA_ _ Tryz.func229 rfl Tryz.ntmps229 sO_ ?_
 repeat' (first | (refine Two.mk ?_ ?_ <;> intro _) | (guard_target =~ CallN_; first | refine RunU.cons (sC_ (hD) (.sh .nil) (.shAgg rfl gA_ .nil) rfl) ?_) | refine goA ?_ | refine nxA ?_ | refine Done.ret (.one rA_ .nil) (.sh .nil) ?_ rfl)
 refine WpA.loop_slots (ι := Nat × Nat) (fun q => [(1, .own 1 (.pt true [.sl false 1 (ints l)])), (3, .own 6 (.sl true 1 (ints E))), (4, .own q.2 (.sl true 1 (LL (nwTo l q.1)))), (5, vI ((q.1 + 1 : Nat) : Int))]) (fun q => q.1 + 1 ≤ l.length) (fun q => l.length - q.1) (0, _) (by simp only; omega) ⟨rfl, rfl, xR_, rfl, trivial⟩ ?_
 rintro ⟨j, id⟩ s nx hj
 simp only at hj
 dsimp only
 have hnl := nwTo_len l j
 by_cases hlt : j + 1 < l.length
 ·have e1 : ((((j + 1 : Nat) : Int) - 1).toNat) * 1 = j := by omega
  have e2 : (j + 1) * 1 = j + 1 := by omega
  have h1 := hd64 ((j + 1) * 1) (by omega)
  have h2 := hd64 (((((j + 1 : Nat) : Int) - 1).toNat) * 1) (by omega)
  have b1 := ht.bnd ((j + 1) * 1)
  have b2 := ht.bnd (((((j + 1 : Nat) : Int) - 1).toNat) * 1)
  have hR := hR j
  have b3 : l.getD ((((j + 1 : Nat) : Int) - 1).toNat * 1) 0 ≤ l.getD ((j + 1) * 1) 0 := by rw [e1, e2]; exact ht.asc j hlt
  clear hd64 ht hge
  by_cases hj0 : j = 0
  ·rw [if_pos hj0, Int.sub_zero] at hR
   repeat' (first | (refine Two.mk ?_ ?_ <;> intro _) | refine goA ?_ | refine nxA ?_ | refine Done.ret (.one rA_ .nil) (.sh .nil) ?_ rfl)
   all_goals try (exfalso; omega)
   all_goals exact ⟨(j + 1, _), by simp only; omega, ⟨rfl, rfl, by exact own_LL (by rw [hR, e1, e2]), int_eq (by simp), trivial⟩, by simp only; omega⟩
  ·rw [if_neg hj0] at hR
   repeat' (first | (refine Two.mk ?_ ?_ <;> intro _) | refine goA ?_ | refine nxA ?_ | refine Done.ret (.one rA_ .nil) (.sh .nil) ?_ rfl)
   all_goals try (exfalso; omega)
   all_goals exact ⟨(j + 1, _), by simp only; omega, ⟨rfl, rfl, by exact own_LL (by rw [hR, e1, e2]), int_eq (by simp), trivial⟩, by simp only; omega⟩
 ·repeat' (first | (refine Two.mk ?_ ?_ <;> intro _) | refine goA ?_ | refine nxA ?_ | refine Done.ret (.one rA_ .nil) (.sh .nil) ?_ rfl)
  all_goals first | (exfalso; omega) | (rw [show l.length - 1 = j by omega]) | rfl
def eT (ps : List (List Int)) (n : Int) : Nat → Int
 | 0 => n
 | j + 1 => eT ps n j / (ps.getD j []).getD 1 0
def laT (ps : List (List Int)) (n : Int) : Nat → Int
 | 0 => 0
 | j + 1 => laT ps n j + (ps.getD j []).getD 0 0 * eT ps n (j + 1)
def teT (ps : List (List Int)) (n : Int) : Nat → List Int
 | 0 => [n]
 | j + 1 => teT ps n j ++ [laT ps n (j + 1)]
theorem teT_len (ps : List (List Int)) (n : Int) : ∀ j, (teT ps n j).length = j + 1
 | 0 => rfl
 | j + 1 => by simp [teT, teT_len ps n j]
theorem eT_bnd {ps : List (List Int)} (h : GoodP ps) {n : Int} (hn : 1 ≤ n ∧ n ≤ 64) : ∀ j, j ≤ ps.length → 0 ≤ eT ps n j ∧ eT ps n j ≤ 64
 | 0, _ => by simp only [eT]; omega
 | j + 1, hj => by
  have ih := eT_bnd h hn j (by omega)
  have h2 := (h.v2 j (by omega)).1
  simp only [eT]
  refine ⟨Int.ediv_nonneg ih.1 (by omega), ?_⟩
  have := Int.ediv_le_self ((ps.getD j []).getD 1 0) ih.1
  omega
theorem laT_bnd {ps : List (List Int)} (h : GoodP ps) {n : Int} (hn : 1 ≤ n ∧ n ≤ 64) : ∀ j, j ≤ ps.length → 0 ≤ laT ps n j ∧ laT ps n j ≤ 3840 * j
 | 0, _ => by simp [laT]
 | j + 1, hj => by
  have ih := laT_bnd h hn j (by omega)
  have h1 := h.v1 j (by omega)
  have h2 := eT_bnd h hn (j + 1) hj
  have h3 : 0 ≤ (ps.getD j []).getD 0 0 * eT ps n (j + 1) := Int.mul_nonneg (by omega) h2.1
  have h4 : (ps.getD j []).getD 0 0 * eT ps n (j + 1) ≤ 60 * 64 := Int.mul_le_mul h1.2 h2.2 h2.1 (by omega)
  simp only [laT]
  omega
theorem own_p1 {id : Nat} {A B : List Int} (h : A = B) : AV.own id (.pt true [.sl true 1 (ints A)]) = AV.own id (.pt true [.sl true 1 (ints B)]) := by rw [h]
theorem bon_ex (ps : List (List Int)) (h : GoodP ps) : ∃ (T : List Int) (code : Int), (code = 0 ∧ IsBr T ∨ code ≠ 0 ∧ T = []) ∧ CallA Tryz.prog 214 [aLL ps] [.agg [.sl true 1 (ints T)], rI code] [] := by
 have hl := h.len
 have hn := h.pr ps.length (Nat.le_refl _)
 have hP := pairsN_c ps h
 generalize pr2 ps ps.length = n at *
 have hT := teT_len ps n ps.length
 have hB := specIsBr_c (teT ps n ps.length) (by omega)
 have hW0 : ∀ i, (ps.getD i []).length ≤ 1000 := fun i => by
  by_cases hi : i < ps.length
  ·rw [h.row i hi]; omega
  ·rw [List.getD_eq_getElem?_getD, List.getElem?_eq_none (by omega)]; simp
 have hNS : IsBr (teT ps n ps.length) → ∃ W, CallA Tryz.prog 229 [aBr1 (teT ps n ps.length)] [rLL W] [] ∧ CallA Tryz.prog 228 [aLL W, aLL ps] [rB (decide (W = ps))] [] := fun hbr =>
  ⟨_, newtonD_c _ hbr, sameD2_c _ ps (by rw [nwTo_len]; omega) (by omega) (fun i => nwTo_row _ _ i) hW0⟩
 have main : ∃ ok : Bool, (ok = true → IsBr (teT ps n ps.length)) ∧ CallA Tryz.prog 214 [aLL ps] [.agg [.sl true 1 (ints (if ok then teT ps n ps.length else []))], rI (if ok then 0 else 5)] [] := by
  obtain ⟨ok, hok⟩ : ∃ ok : Bool, (ok = false ∧ ¬ IsBr (teT ps n ps.length)) ∨ (IsBr (teT ps n ps.length) ∧ ∃ W, CallA Tryz.prog 229 [aBr1 (teT ps n ps.length)] [rLL W] [] ∧ CallA Tryz.prog 228 [aLL W, aLL ps] [rB ok] []) := by
   by_cases hbr : IsBr (teT ps n ps.length)
   ·obtain ⟨W, h1, h2⟩ := hNS hbr
    exact ⟨decide (W = ps), .inr ⟨hbr, W, h1, h2⟩⟩
   ·exact ⟨false, .inl ⟨rfl, hbr⟩⟩
  refine ⟨ok, fun e => ?_, ?_⟩
  ·rcases hok with ⟨h1, _⟩ | ⟨h1, _⟩
   ·rw [h1] at e; cases e
   ·exact h1
  clear hNS
  refine cA_ _ Tryz.func214 rfl Tryz.ntmps214 (by cases ok <;> simp [V.solid, D.solid, D.solids, solids_ints]) ?_
  repeat' (first | (refine Two.mk ?_ ?_ <;> intro _) | (guard_target =~ CallN_; first | refine RunU.cons (sC_ (hP) (.sh .nil) (.sh wS_ .nil) rfl) ?_) | refine goA ?_ | (guard_target =~ IsG; first | refine psA ?_ | (guard_target =~ CallS_; first | refine RunU.doit rfl rfl (sC_ (hP) (.sh .nil) (.sh wS_ .nil) rfl) ?_) | refine gdA ?_) | refine nxA ?_ | refine Done.ret (.cell inferInstance rfl rfl (.one rA_ .nil)) (.sh .nil) ?_ rfl)
  all_goals try (exfalso; omega)
  refine WpA.loop_slots2 (fun j id => [(0, .c (.sl false 1 (LLs ps))), (2, .own 1 (.pt true [.sl true 1 []])), (5, .own id (.pt true [.sl true 1 (ints (teT ps n j))])), (6, vI (eT ps n j)), (7, vI (laT ps n j)), (8, vI j)]) (fun j => j ≤ ps.length) (fun j => ps.length - j) 0 _ (by simp) ⟨rfl, rfl, rfl, rfl, rfl, rfl, trivial⟩ ?_
  intro j id s nx hj
  by_cases hlt : j < ps.length
  ·have hT := teT_len ps n j
   have b1 := eT_bnd h hn j hj
   have b2 := eT_bnd h hn (j + 1) hlt
   have b3 := laT_bnd h hn j hj
   have b4 := laT_bnd h hn (j + 1) hlt
   have r1 := h.row (j * 1) (by omega)
   have r2 : 1 ≤ (ps.getD (j * 1) []).getD (0 * 1) 0 ∧ (ps.getD (j * 1) []).getD (0 * 1) 0 ≤ 60 := by simpa using h.v1 j hlt
   have r3 : 1 ≤ (ps.getD (j * 1) []).getD (1 * 1) 0 ∧ (ps.getD (j * 1) []).getD (1 * 1) 0 ≤ 5 := by simpa using h.v2 j hlt
   have e1 : eT ps n j / (ps.getD (j * 1) []).getD (1 * 1) 0 = eT ps n (j + 1) := by simp [eT]
   have e2 : laT ps n j + (ps.getD (j * 1) []).getD (0 * 1) 0 * (eT ps n j / (ps.getD (j * 1) []).getD (1 * 1) 0) = laT ps n (j + 1) := by rw [e1]; simp [laT]
   rw [← e1] at b2
   rw [← e2] at b4
   clear hok hB
   repeat' (first | (refine Two.mk ?_ ?_ <;> intro _) | refine goA ?_ | (guard_target =~ IsG; first | refine psA ?_ | refine gdA ?_) | refine nxA ?_ | refine Done.ret (.cell inferInstance rfl rfl (.one rA_ .nil)) (.sh .nil) ?_ rfl)
   all_goals try (exfalso; omega)
   exact ⟨j + 1, by omega, ⟨_, rfl, rfl, by exact own_p1 (A := teT ps n j ++ [laT ps n j + (ps.getD (j * 1) []).getD (0 * 1) 0 * (eT ps n j / (ps.getD (j * 1) []).getD (1 * 1) 0)]) (by rw [e2]; rfl), int_eq e1, int_eq e2, int_eq (by omega), trivial⟩, by omega⟩
  ·obtain rfl : j = ps.length := by omega
   clear hP h
   rcases hok with ⟨rfl, hbr⟩ | ⟨hbr, W, hN, hS⟩
   ·rw [decide_eq_false hbr] at hB
    repeat' (first | (refine Two.mk ?_ ?_ <;> intro _) | (guard_target =~ CallN_; first | refine RunU.cons (sC_ (hB) (.sh .nil) (.shAgg rfl gA_ .nil) rfl) ?_) | refine goA ?_ | (guard_target =~ IsG; first | refine psA ?_ | (guard_target =~ CallS_; first | refine RunU.doit rfl rfl (sC_ (hB) (.sh .nil) (.shAgg rfl gA_ .nil) rfl) ?_) | refine gdA ?_) | refine nxA ?_ | refine Done.ret (.cell inferInstance rfl rfl (.one rA_ .nil)) (.sh .nil) ?_ rfl)
    all_goals first | (exfalso; omega) | rfl | (simp [ints]; done)
   ·rw [decide_eq_true hbr] at hB
    cases ok with
    | true =>
     repeat' (first | (refine Two.mk ?_ ?_ <;> intro _) | (guard_target =~ CallN_; first | refine RunU.cons (sC_ (hB) (.sh .nil) (.shAgg rfl gA_ .nil) rfl) ?_ | refine RunU.cons (sC_ (hN) (.sh .nil) (.shAgg rfl gA_ .nil) rfl) ?_ | refine RunU.cons (sC_ (hS) (.sh (.sh .nil)) (.sh wS_ (.sh wS_ .nil)) rfl) ?_) | refine goA ?_ | (guard_target =~ IsG; first | refine psA ?_ | (guard_target =~ CallS_; first | refine RunU.doit rfl rfl (sC_ (hB) (.sh .nil) (.shAgg rfl gA_ .nil) rfl) ?_ | refine RunU.doit rfl rfl (sC_ (hN) (.sh .nil) (.shAgg rfl gA_ .nil) rfl) ?_ | refine RunU.doit rfl rfl (sC_ (hS) (.sh (.sh .nil)) (.sh wS_ (.sh wS_ .nil)) rfl) ?_) | refine gdA ?_) | refine nxA ?_ | refine Done.ret (.cell inferInstance rfl rfl (.one rA_ .nil)) (.sh .nil) ?_ rfl)
     all_goals first | (exfalso; omega) | rfl | (simp [ints]; done)
    | false =>
     repeat' (first | (refine Two.mk ?_ ?_ <;> intro _) | (guard_target =~ CallN_; first | refine RunU.cons (sC_ (hB) (.sh .nil) (.shAgg rfl gA_ .nil) rfl) ?_ | refine RunU.cons (sC_ (hN) (.sh .nil) (.shAgg rfl gA_ .nil) rfl) ?_ | refine RunU.cons (sC_ (hS) (.sh (.sh .nil)) (.sh wS_ (.sh wS_ .nil)) rfl) ?_) | refine goA ?_ | (guard_target =~ IsG; first | refine psA ?_ | (guard_target =~ CallS_; first | refine RunU.doit rfl rfl (sC_ (hB) (.sh .nil) (.shAgg rfl gA_ .nil) rfl) ?_ | refine RunU.doit rfl rfl (sC_ (hN) (.sh .nil) (.shAgg rfl gA_ .nil) rfl) ?_ | refine RunU.doit rfl rfl (sC_ (hS) (.sh (.sh .nil)) (.sh wS_ (.sh wS_ .nil)) rfl) ?_) | refine gdA ?_) | refine nxA ?_ | refine Done.ret (.cell inferInstance rfl rfl (.one rA_ .nil)) (.sh .nil) ?_ rfl)
     all_goals first | (exfalso; omega) | rfl | (simp [ints]; done)
 obtain ⟨ok, h1, h2⟩ := main
 cases ok with
 | true => exact ⟨_, _, .inl ⟨rfl, h1 rfl⟩, h2⟩
 | false => exact ⟨_, _, .inr ⟨by simp, rfl⟩, h2⟩
end Go.Proofs.YtmgmpnhlehonmaaGreat
namespace Go.Proofs.YtmgmpnhlehonmaaGreat
set_option maxRecDepth 100000
set_option maxHeartbeats 20000000
open Go.Pv
open Go.ChangeShapes Go.WideShapes Go.ChangeAt Go.RowKit
attribute [local irreducible] RunU WpA Step CallG CallNG Done DoneN
instance fnOk204 : FnOk Tryz.prog 204 := ⟨_, Tryz.func204, rfl, by decide⟩
instance fnOk176 : FnOk Tryz.prog 176 := ⟨_, Tryz.func176, rfl, by decide⟩
attribute [local irreducible] decStrict decFalls decIsBr decWithin Strict Falls IsBr Within
abbrev St := Int × Int
def OkS (l : List Int) (s : St) : Prop := 0 ≤ s.1 ∧ s.1 ≤ l.length
abbrev dSs (l : List Int) (s : St) : D := dSr l s.1 s.2
structure By (l : List Int) : Prop where
 len : l.length ≤ 9223372036854775807
 b : ∀ i, 0 ≤ l.getD i 0 ∧ l.getD i 0 ≤ 255
def Dr1 (l : List Int) (s : St) (n x : Int) (s' : St) : Prop := (0 ≤ x ∧ (n < 1 → x = 0) ∧ (1 ≤ n → x < n)) ∧ OkS l s' ∧ CallNS Tryz.prog 65 (dSs l s) [aI n] [rI x] (dSs l s')
theorem dr1_ex {l : List Int} (hb : By l) {s : St} (hs : OkS l s) (n : Int) : ∃ x s', Dr1 l s n x s' := by
 obtain ⟨x, a, h, h1, h2, h3⟩ := next_c' l hb.len hb.b s.1 s.2 n hs
 exact ⟨x, (a, h), h1, h2, h3⟩
def DrP (l : List Int) (s : St) (L : List Int) (x : Int) (s' : St) : Prop := (∃ i, i < L.length ∧ x = L.getD i 0) ∧ OkS l s' ∧ CallNS Tryz.prog 93 (dSs l s) [.mv (.one (.sl true 1 (ints L)))] [rI x] (dSs l s')
theorem drP_ex {l : List Int} (hb : By l) {s : St} (hs : OkS l s) (L : List Int) (h1 : 1 ≤ L.length ∧ L.length ≤ 1000) : ∃ x s', DrP l s L x s' := by
 obtain ⟨i, a, h, h1, h2, h3⟩ := pick_c l hb.len hb.b s.1 s.2 L h1 hs
 exact ⟨L.getD i 0, (a, h), ⟨i, h1, rfl⟩, h2, h3⟩
def cop (own : Int) : Int → Nat → Int
 | c, 0 => c
 | c, f + 1 => if 1 < (Int.gcd c own : Int) then cop own (c + 1) f else c
theorem cop_tab : ∀ o : Fin 4, ∀ c : Fin 41, (Int.gcd (cop ((o.val : Int) + 2) (c.val : Int) 5) ((o.val : Int) + 2) : Int) ≤ 1 ∧ (c.val : Int) ≤ cop ((o.val : Int) + 2) (c.val : Int) 5 ∧ cop ((o.val : Int) + 2) (c.val : Int) 5 ≤ (c.val : Int) + 5 := by decide +kernel
theorem cop_ok {own c : Int} (ho : 2 ≤ own ∧ own ≤ 5) (hc : 0 ≤ c ∧ c ≤ 40) : (Int.gcd (cop own c 5) own : Int) ≤ 1 ∧ c ≤ cop own c 5 ∧ cop own c 5 ≤ c + 5 := by
 have := cop_tab ⟨(own - 2).toNat, by omega⟩ ⟨c.toNat, by omega⟩
 simp only at this
 rwa [show (((own - 2).toNat : Nat) : Int) + 2 = own by omega, show ((c.toNat : Nat) : Int) = c by omega] at this
def c3 (ps : List (List Int)) (own y : Int) : Int := if ps.length = 0 then cop own (cop own (1 + y) 5 + own) 5 else cop own (1 + y) 5
inductive SmGo (l : List Int) (most : Int) : Nat → List (List Int) → Int → St → List (List Int) → St → Prop
 | done {ps n s} : SmGo l most 0 ps n s ps s
 | skip {k ps n s x s1 P S} (h1 : Dr1 l s 4 x s1) (hm : most < n * (2 + x)) (r : SmGo l most k ps n s1 P S) : SmGo l most (k + 1) ps n s P S
 | more {k ps n s x s1 v s2 y s3 P S} (h1 : Dr1 l s 4 x s1) (hm : n * (2 + x) ≤ most) (h2 : DrP l s1 [4, 8, 12] v s2) (h3 : Dr1 l s2 v y s3) (hy : 0 ≤ y ∧ y ≤ 11)
   (r : SmGo l most k (ps ++ [[c3 ps (2 + x) y, 2 + x]]) (n * (2 + x)) s3 P S) : SmGo l most (k + 1) ps n s P S
theorem pr2_app (ps qs : List (List Int)) : ∀ j, j ≤ ps.length → pr2 (ps ++ qs) j = pr2 ps j
 | 0, _ => rfl
 | j + 1, hj => by
  have e : (ps ++ qs).getD j [] = ps.getD j [] := by rw [List.getD_eq_getElem?_getD, List.getElem?_append_left (by omega), ← List.getD_eq_getElem?_getD]
  simp only [pr2]
  rw [pr2_app ps qs j (by omega), e]
theorem getD_app {ps : List (List Int)} {r : List Int} {i : Nat} (hi : i < (ps ++ [r]).length) : (ps ++ [r]).getD i [] = if i < ps.length then ps.getD i [] else r := by
 by_cases h : i < ps.length
 ·rw [if_pos h, List.getD_eq_getElem?_getD, List.getElem?_append_left h, ← List.getD_eq_getElem?_getD]
 ·have : i = ps.length := by simp at hi; omega
  subst this
  rw [if_neg h, List.getD_eq_getElem?_getD, List.getElem?_append_right (Nat.le_refl _), Nat.sub_self]
  rfl
theorem goodP_add {ps : List (List Int)} (h : GoodP ps) {c own : Int} (hl : ps.length < 3) (hc : 1 ≤ c ∧ c ≤ 60) (ho : 1 ≤ own ∧ own ≤ 5) (hm : 1 ≤ pr2 ps ps.length * own ∧ pr2 ps ps.length * own ≤ 64) : GoodP (ps ++ [[c, own]]) where
 len := by simp; omega
 row := fun i hi => by rw [getD_app hi]; split; exact h.row i ‹_›; rfl
 v1 := fun i hi => by rw [getD_app hi]; split; exact h.v1 i ‹_›; exact hc
 v2 := fun i hi => by rw [getD_app hi]; split; exact h.v2 i ‹_›; exact ho
 pr := fun j hj => by
  by_cases e : j ≤ ps.length
  ·rw [pr2_app _ _ _ e]; exact h.pr j e
  ·have : j = ps.length + 1 := by simp at hj; omega
   subst this
   rw [pr2, pr2_app _ _ _ (Nat.le_refl _), getD_app (by simp), if_neg (by omega)]
   exact hm
theorem c3_ok (ps : List (List Int)) {own y : Int} (ho : 2 ≤ own ∧ own ≤ 5) (hy : 0 ≤ y ∧ y ≤ 11) : 1 ≤ c3 ps own y ∧ c3 ps own y ≤ 60 := by
 have h1 := cop_ok (c := 1 + y) ho (by omega)
 unfold c3
 split
 ·have h2 := cop_ok (c := cop own (1 + y) 5 + own) ho (by omega)
  omega
 ·omega
theorem smGo_ex {l : List Int} (hb : By l) {most : Int} (hmo : most ≤ 64) : ∀ (k : Nat) (ps : List (List Int)) (n : Int) (s : St), GoodP ps → pr2 ps ps.length = n → ps.length + k ≤ 3 → OkS l s → ∃ P S, SmGo l most k ps n s P S ∧ GoodP P ∧ OkS l S
 | 0, ps, n, s, hg, _, _, hs => ⟨ps, s, .done, hg, hs⟩
 | k + 1, ps, n, s, hg, hn, hk, hs => by
  obtain ⟨x, s1, d1⟩ := dr1_ex hb hs 4
  have hx : 0 ≤ x ∧ x < 4 := ⟨d1.1.1, d1.1.2.2 (by omega)⟩
  have hp := hg.pr ps.length (Nat.le_refl _)
  by_cases hm : n * (2 + x) ≤ most
  ·obtain ⟨v, s2, d2⟩ := drP_ex hb d1.2.1 [4, 8, 12] (by simp)
   obtain ⟨y, s3, d3⟩ := dr1_ex hb d2.2.1 v
   have hv : 1 ≤ v ∧ v ≤ 12 := by
    obtain ⟨i, hi, e⟩ := d2.1
    match i, hi with
    | 0, _ => simp at e; omega
    | 1, _ => simp at e; omega
    | 2, _ => simp at e; omega
   have hy : 0 ≤ y ∧ y ≤ 11 := ⟨d3.1.1, by have := d3.1.2.2 (by omega); omega⟩
   have hc := c3_ok ps (own := 2 + x) (by omega) hy
   have h1 : 1 ≤ n * (2 + x) := by
    have : 1 * 1 ≤ n * (2 + x) := Int.mul_le_mul (by omega) (by omega) (by omega) (by omega)
    omega
   have hg2 := goodP_add hg (c := c3 ps (2 + x) y) (own := 2 + x) (by omega) hc (by omega) (by rw [hn]; omega)
   obtain ⟨P, S, r, g, o⟩ := smGo_ex hb hmo k _ (n * (2 + x)) s3 hg2 (by rw [List.length_append, List.length_singleton, pr2, pr2_app _ _ _ (Nat.le_refl _), getD_app (by simp), if_neg (by omega), hn]; rfl) (by simp; omega) d3.2.1
   exact ⟨P, S, .more d1 hm d2 d3 hy r, g, o⟩
  ·obtain ⟨P, S, r, g, o⟩ := smGo_ex hb hmo k ps n s1 hg hn (by omega) d1.2.1
   exact ⟨P, S, .skip d1 (by omega) r, g, o⟩
abbrev brT (T : List Int) : V := .agg [.sl true 1 (ints T)]
theorem small_ex {l : List Int} (hb : By l) {s : St} (hs : OkS l s) (most term : Int) (hmo : 1 ≤ most ∧ most ≤ 64) : ∃ (T : List Int) (s' : St), (IsBr T ∨ T = [1] ∨ T = [2] ∨ T = [3]) ∧ OkS l s' ∧
  CallNS Tryz.prog 204 (dSs l s) [aI most, aI term] [brT T] (dSs l s') := by
 obtain ⟨x0, s0, d0⟩ := dr1_ex hb hs 3
 have hx0 : 0 ≤ x0 ∧ x0 < 3 := ⟨d0.1.1, d0.1.2.2 (by omega)⟩
 obtain ⟨P, S, hgo, hP, hS⟩ := smGo_ex hb hmo.2 (1 + x0).toNat [] 1 s0 ⟨by simp, fun i hi => by simp at hi, fun i hi => by simp at hi, fun i hi => by simp at hi, fun j hj => by
  have : j = 0 := by simpa using hj
  subst this; simp [pr2]⟩ rfl (by simp; omega) d0.2.1
 obtain ⟨T, code, hT, hB⟩ := bon_ex P hP
 obtain ⟨x1, s1, d1⟩ := dr1_ex hb hS 12
 obtain ⟨xA, sA, dA⟩ := drP_ex hb hS [1, 2, 3] (by simp)
 obtain ⟨xC, sC, dC⟩ := drP_ex hb d1.2.1 [1, 2, 3] (by simp)
 have main : ∀ (R : List Int) (s' : St), ((code ≠ 0 ∨ code = 0 ∧ 1 ≤ T.length ∧ term < T.getD (((T.length : Int) - 1).toNat * 1) 0) ∧ R = [xA] ∧ s' = sA ∨ (code = 0 ∧ 1 ≤ T.length ∧ T.getD (((T.length : Int) - 1).toNat * 1) 0 ≤ term) ∧ (x1 = 0 ∧ R = [xC] ∧ s' = sC ∨ x1 ≠ 0 ∧ R = T ∧ s' = s1)) →
  CallNS Tryz.prog 204 (dSs l s) [aI most, aI term] [brT R] (dSs l s') := by
  intro R s' hcase
  have hTl : T.length ≤ 100 := by
   rcases hT with ⟨_, h⟩ | ⟨_, rfl⟩
   ·exact (tms_br h).len.2
   ·simp
  have hN0 := d0.2.2
  have hN1 := d1.2.2
  have hNA := dA.2.2
  have hNC := dC.2.2
  clear d0 d1 dA dC hs hb hP hS hT
  refine cN_ _ Tryz.func204 rfl Tryz.ntmps204 ?_
  repeat' (first | (refine Two.mk ?_ ?_ <;> intro _) | (guard_target =~ CallN_; first | refine RunU.cons (sI_ (hN0) iA (.sh .nil) (.sh lcA .nil) xR_ xR_ rfl) ?_) | refine goA ?_ | (guard_target =~ IsG; first | refine psA ?_ | (guard_target =~ CallS_; first | refine RunU.doit rfl rfl (sI_ (hN0) iA (.sh .nil) (.sh lcA .nil) xR_ xR_ rfl) ?_) | refine gdA ?_) | refine nxA ?_ | ((first | refine DoneN.ret (.cell inferInstance rfl rfl .nil) rfl ?_ ?_ | refine DoneN.normal (.cell inferInstance rfl rfl .nil) rfl ?_ ?_) <;> try exact rfl))
  refine WpA.loop_slots (ι := Nat × List (List Int) × Int × St × Nat) (fun q => [(0, .own 0 (dSs l q.2.2.2.1)), (1, vI most), (2, vI term), (6, .own 3 (.pt true [.sl true 1 []])), (7, .own q.2.2.2.2 (.sl true 1 (LL q.2.1))), (8, vI q.2.2.1), (9, vI q.1)]) (fun q => SmGo l most q.1 q.2.1 q.2.2.1 q.2.2.2.1 P S ∧ (1 ≤ q.2.2.1 ∧ q.2.2.1 ≤ 64) ∧ q.2.1.length + q.1 ≤ 3) (fun q => q.1) ((1 + x0).toNat, [], 1, s0, _) ⟨hgo, by simp, by simp; omega⟩ ⟨rfl, rfl, rfl, rfl, xR_, rfl, int_eq (by simp; omega), trivial⟩ ?_
  clear hgo hx0 hN0
  rintro ⟨k, ps, n, t, id⟩ st nx ⟨hgo, hn, hl⟩
  simp only at hgo hn hl
  dsimp only
  match k, hgo with
  | 0, .done =>
   clear hl
   rcases hcase with ⟨hc, rfl, rfl⟩ | ⟨⟨rfl, hT1, hT2⟩, ⟨rfl, rfl, rfl⟩ | ⟨hx, rfl, rfl⟩⟩
   ·clear hN1 hNC
    rcases hc with hc | ⟨rfl, hT1, hT2⟩
    ·repeat' (first | (refine Two.mk ?_ ?_ <;> intro _) | (guard_target =~ CallN_; first | refine RunU.cons (sC_ (hB) (.sh .nil) (.sh wS_ .nil) rfl) ?_ | refine RunU.cons (sI_ (hNA) iA (.mv vA_ .nil) (.mv .nil) xR_ xR_ rfl) ?_) | refine goA ?_ | (guard_target =~ IsG; first | refine psA ?_ | (guard_target =~ CallS_; first | refine RunU.doit rfl rfl (sC_ (hB) (.sh .nil) (.sh wS_ .nil) rfl) ?_ | refine RunU.doit rfl rfl (sI_ (hNA) iA (.mv vA_ .nil) (.mv .nil) xR_ xR_ rfl) ?_) | refine gdA ?_) | refine nxA ?_ | ((first | refine DoneN.ret (.cell inferInstance rfl rfl .nil) rfl ?_ ?_ | refine DoneN.normal (.cell inferInstance rfl rfl .nil) rfl ?_ ?_) <;> try exact rfl))
     all_goals first | (exfalso; omega) | rfl | (exfalso; simp_all; done)
    ·repeat' (first | (refine Two.mk ?_ ?_ <;> intro _) | (guard_target =~ CallN_; first | refine RunU.cons (sC_ (hB) (.sh .nil) (.sh wS_ .nil) rfl) ?_ | refine RunU.cons (sI_ (hNA) iA (.mv vA_ .nil) (.mv .nil) xR_ xR_ rfl) ?_) | refine goA ?_ | (guard_target =~ IsG; first | refine psA ?_ | (guard_target =~ CallS_; first | refine RunU.doit rfl rfl (sC_ (hB) (.sh .nil) (.sh wS_ .nil) rfl) ?_ | refine RunU.doit rfl rfl (sI_ (hNA) iA (.mv vA_ .nil) (.mv .nil) xR_ xR_ rfl) ?_) | refine gdA ?_) | refine nxA ?_ | ((first | refine DoneN.ret (.cell inferInstance rfl rfl .nil) rfl ?_ ?_ | refine DoneN.normal (.cell inferInstance rfl rfl .nil) rfl ?_ ?_) <;> try exact rfl))
     all_goals first | (exfalso; omega) | rfl | (exfalso; simp_all; done)
   ·repeat' (first | (refine Two.mk ?_ ?_ <;> intro _) | (guard_target =~ CallN_; first | refine RunU.cons (sC_ (hB) (.sh .nil) (.sh wS_ .nil) rfl) ?_ | refine RunU.cons (sI_ (hN1) iA (.sh .nil) (.sh lcA .nil) xR_ xR_ rfl) ?_ | refine RunU.cons (sI_ (hNC) iA (.mv vA_ .nil) (.mv .nil) xR_ xR_ rfl) ?_) | refine goA ?_ | (guard_target =~ IsG; first | refine psA ?_ | (guard_target =~ CallS_; first | refine RunU.doit rfl rfl (sC_ (hB) (.sh .nil) (.sh wS_ .nil) rfl) ?_ | refine RunU.doit rfl rfl (sI_ (hN1) iA (.sh .nil) (.sh lcA .nil) xR_ xR_ rfl) ?_ | refine RunU.doit rfl rfl (sI_ (hNC) iA (.mv vA_ .nil) (.mv .nil) xR_ xR_ rfl) ?_) | refine gdA ?_) | refine nxA ?_ | ((first | refine DoneN.ret (.cell inferInstance rfl rfl .nil) rfl ?_ ?_ | refine DoneN.normal (.cell inferInstance rfl rfl .nil) rfl ?_ ?_) <;> try exact rfl))
    all_goals first | (exfalso; omega) | rfl | (exfalso; simp_all; done)
   ·repeat' (first | (refine Two.mk ?_ ?_ <;> intro _) | (guard_target =~ CallN_; first | refine RunU.cons (sC_ (hB) (.sh .nil) (.sh wS_ .nil) rfl) ?_ | refine RunU.cons (sI_ (hN1) iA (.sh .nil) (.sh lcA .nil) xR_ xR_ rfl) ?_) | refine goA ?_ | (guard_target =~ IsG; first | refine psA ?_ | (guard_target =~ CallS_; first | refine RunU.doit rfl rfl (sC_ (hB) (.sh .nil) (.sh wS_ .nil) rfl) ?_ | refine RunU.doit rfl rfl (sI_ (hN1) iA (.sh .nil) (.sh lcA .nil) xR_ xR_ rfl) ?_) | refine gdA ?_) | refine nxA ?_ | ((first | refine DoneN.ret (.cell inferInstance rfl rfl .nil) rfl ?_ ?_ | refine DoneN.normal (.cell inferInstance rfl rfl .nil) rfl ?_ ?_) <;> try exact rfl))
    all_goals first | (exfalso; omega) | rfl | (exfalso; simp_all; done)
  | k + 1, .skip (x := x) (s1 := t1) h1 hm r =>
   clear hcase hB hN1 hNA hNC hTl
   have hN := h1.2.2
   have hx := h1.1
   have hx0 := hx.1
   have hx4 : x ≤ 3 := by have := hx.2.2 (by omega); omega
   have b1 : 0 ≤ n * (2 + x) ∧ n * (2 + x) ≤ 64 * 5 := ⟨Int.mul_nonneg (by omega) (by omega), Int.mul_le_mul (by omega) (by omega) (by omega) (by omega)⟩
   clear h1 hx
   repeat' (first | (refine Two.mk ?_ ?_ <;> intro _) | (guard_target =~ CallN_; first | refine RunU.cons (sI_ (hN) iA (.sh .nil) (.sh lcA .nil) xR_ xR_ rfl) ?_) | refine goA ?_ | (guard_target =~ IsG; first | refine psA ?_ | (guard_target =~ CallS_; first | refine RunU.doit rfl rfl (sI_ (hN) iA (.sh .nil) (.sh lcA .nil) xR_ xR_ rfl) ?_) | refine gdA ?_) | refine nxA ?_ | ((first | refine DoneN.ret (.cell inferInstance rfl rfl .nil) rfl ?_ ?_ | refine DoneN.normal (.cell inferInstance rfl rfl .nil) rfl ?_ ?_) <;> try exact rfl))
   all_goals try (exfalso; omega)
   exact ⟨(k, ps, n, t1, _), ⟨r, hn, by simp only; omega⟩, ⟨rfl, rfl, rfl, rfl, xR_, rfl, int_eq (by simp), trivial⟩, by simp only; omega⟩
  | k + 1, .more (x := x) (s1 := t1) (v := v) (s2 := t2) (y := y) (s3 := t3) h1 hm h2 h3 hy r =>
   clear hcase hB hN1 hNA hNC hTl
   have hN1 := h1.2.2
   have hN2 := h2.2.2
   have hN3 := h3.2.2
   have hx := h1.1
   have hx0 := hx.1
   have hx4 : x ≤ 3 := by have := hx.2.2 (by omega); omega
   have b1 : 0 ≤ n * (2 + x) ∧ n * (2 + x) ≤ 64 * 5 := ⟨Int.mul_nonneg (by omega) (by omega), Int.mul_le_mul (by omega) (by omega) (by omega) (by omega)⟩
   have b2 : 1 * 1 ≤ n * (2 + x) := Int.mul_le_mul (by omega) (by omega) (by omega) (by omega)
   have hc := cop_ok (own := 2 + x) (c := 1 + y) (by omega) (by omega)
   have hc2 := cop_ok (own := 2 + x) (c := cop (2 + x) (1 + y) 5 + (2 + x)) (by omega) (by omega)
   have hD := fun c (hc : 0 ≤ c ∧ c ≤ 100) => gcd_c c (2 + x) (by omega) (by omega)
   clear h1 h2 h3 hx
   by_cases hps : ps.length = 0
   ·rw [c3, if_pos hps] at r
    generalize hC1 : cop (2 + x) (1 + y) 5 = C1 at *
    generalize hC2 : cop (2 + x) (C1 + (2 + x)) 5 = C2 at *
    repeat' (first | (refine Two.mk ?_ ?_ <;> intro _) | (guard_target =~ AtN 23; refine RunU.cons (sI_ (hN1) iA (.sh .nil) (.sh lcA .nil) xR_ xR_ rfl) ?_) | (guard_target =~ AtN 34; refine RunU.cons (sI_ (hN3) iA (.sh .nil) (.sh lcA .nil) xR_ xR_ rfl) ?_) | (guard_target =~ CallN_; first | refine RunU.cons (sI_ (hN2) iA (.mv vA_ .nil) (.mv .nil) xR_ xR_ rfl) ?_) | refine goA ?_ | (guard_target =~ IsG; first | refine psA ?_ | (guard_target =~ CallS_; first | refine RunU.doit rfl rfl (sI_ (hN2) iA (.mv vA_ .nil) (.mv .nil) xR_ xR_ rfl) ?_) | refine gdA ?_) | refine nxA ?_ | ((first | refine DoneN.ret (.cell inferInstance rfl rfl .nil) rfl ?_ ?_ | refine DoneN.normal (.cell inferInstance rfl rfl .nil) rfl ?_ ?_) <;> try exact rfl))
    all_goals try (exfalso; omega)
    refine WpA.loop_slots (ι := Int × Nat) (fun q => [(0, .own 0 (dSs l t3)), (1, vI most), (2, vI term), (6, .own 3 (.pt true [.sl true 1 []])), (7, .own id (.sl true 1 (LL ps))), (8, vI n), (9, vI ((k + 1 : Nat) : Int)), (10, vI (2 + x)), (11, vI q.1)]) (fun q => cop (2 + x) q.1 q.2 = C1 ∧ 0 ≤ q.1 ∧ q.1 + q.2 ≤ 60) (fun q => q.2) (1 + y, 5) ⟨hC1, by simp only; omega, by simp only; omega⟩ ⟨rfl, rfl, rfl, rfl, rfl, rfl, rfl, rfl, rfl, trivial⟩ ?_
    rintro ⟨c, f⟩ st nx ⟨h1, h2, h3⟩
    simp only at h1 h2 h3
    dsimp only
    have hD1 := hD c (by omega)
    match f, h1 with
    | 0, h1 =>
     have h1 : c = C1 := h1
     subst h1
     repeat' (first | (refine Two.mk ?_ ?_ <;> intro _) | (guard_target =~ CallN_; first | refine RunU.cons (sC_ (hD1) (.sh (.sh .nil)) (.sh wS_ (.sh wS_ .nil)) rfl) ?_) | refine goA ?_ | (guard_target =~ IsG; first | refine psA ?_ | (guard_target =~ CallS_; first | refine RunU.doit rfl rfl (sC_ (hD1) (.sh (.sh .nil)) (.sh wS_ (.sh wS_ .nil)) rfl) ?_) | refine gdA ?_) | refine nxA ?_ | ((first | refine DoneN.ret (.cell inferInstance rfl rfl .nil) rfl ?_ ?_ | refine DoneN.normal (.cell inferInstance rfl rfl .nil) rfl ?_ ?_) <;> try exact rfl))
     all_goals try (exfalso; omega)
     refine WpA.loop_slots (ι := Int × Nat) (fun q => [(0, .own 0 (dSs l t3)), (1, vI most), (2, vI term), (6, .own 3 (.pt true [.sl true 1 []])), (7, .own id (.sl true 1 (LL ps))), (8, vI n), (9, vI ((k + 1 : Nat) : Int)), (10, vI (2 + x)), (11, vI q.1)]) (fun q => cop (2 + x) q.1 q.2 = C2 ∧ 0 ≤ q.1 ∧ q.1 + q.2 ≤ 60) (fun q => q.2) (c + (2 + x), 5) ⟨hC2, by simp only; omega, by simp only; omega⟩ ⟨rfl, rfl, rfl, rfl, rfl, rfl, rfl, rfl, rfl, trivial⟩ ?_
     rintro ⟨c, f⟩ st nx ⟨h1, h2, h3⟩
     simp only at h1 h2 h3
     dsimp only
     have hD := hD c (by omega)
     match f, h1 with
     | 0, h1 =>
      have h1 : c = C2 := h1
      subst h1
      repeat' (first | (refine Two.mk ?_ ?_ <;> intro _) | (guard_target =~ CallN_; first | refine RunU.cons (sC_ (hD) (.sh (.sh .nil)) (.sh wS_ (.sh wS_ .nil)) rfl) ?_) | refine goA ?_ | (guard_target =~ IsG; first | refine psA ?_ | (guard_target =~ CallS_; first | refine RunU.doit rfl rfl (sC_ (hD) (.sh (.sh .nil)) (.sh wS_ (.sh wS_ .nil)) rfl) ?_) | refine gdA ?_) | refine nxA ?_ | ((first | refine DoneN.ret (.cell inferInstance rfl rfl .nil) rfl ?_ ?_ | refine DoneN.normal (.cell inferInstance rfl rfl .nil) rfl ?_ ?_) <;> try exact rfl))
      all_goals try (exfalso; omega)
      exact ⟨(k, ps ++ [[c, 2 + x]], n * (2 + x), t3, _), ⟨r, by simp only; omega, by simp; omega⟩, ⟨rfl, rfl, rfl, rfl, by exact own_LL rfl, rfl, int_eq (by simp), trivial⟩, by simp only; omega⟩
     | f + 1, h1 =>
      rw [cop] at h1
      by_cases hg : 1 < (Int.gcd c (2 + x) : Int)
      ·rw [if_pos hg] at h1
       repeat' (first | (refine Two.mk ?_ ?_ <;> intro _) | (guard_target =~ CallN_; first | refine RunU.cons (sC_ (hD) (.sh (.sh .nil)) (.sh wS_ (.sh wS_ .nil)) rfl) ?_) | refine goA ?_ | (guard_target =~ IsG; first | refine psA ?_ | (guard_target =~ CallS_; first | refine RunU.doit rfl rfl (sC_ (hD) (.sh (.sh .nil)) (.sh wS_ (.sh wS_ .nil)) rfl) ?_) | refine gdA ?_) | refine nxA ?_ | ((first | refine DoneN.ret (.cell inferInstance rfl rfl .nil) rfl ?_ ?_ | refine DoneN.normal (.cell inferInstance rfl rfl .nil) rfl ?_ ?_) <;> try exact rfl))
       all_goals try (exfalso; omega)
       exact ⟨(c + 1, f), ⟨h1, by simp only; omega, by simp only; omega⟩, ⟨rfl, rfl, rfl, rfl, rfl, rfl, rfl, rfl, rfl, trivial⟩, by simp only; omega⟩
      ·rw [if_neg hg] at h1
       subst h1
       repeat' (first | (refine Two.mk ?_ ?_ <;> intro _) | (guard_target =~ CallN_; first | refine RunU.cons (sC_ (hD) (.sh (.sh .nil)) (.sh wS_ (.sh wS_ .nil)) rfl) ?_) | refine goA ?_ | (guard_target =~ IsG; first | refine psA ?_ | (guard_target =~ CallS_; first | refine RunU.doit rfl rfl (sC_ (hD) (.sh (.sh .nil)) (.sh wS_ (.sh wS_ .nil)) rfl) ?_) | refine gdA ?_) | refine nxA ?_ | ((first | refine DoneN.ret (.cell inferInstance rfl rfl .nil) rfl ?_ ?_ | refine DoneN.normal (.cell inferInstance rfl rfl .nil) rfl ?_ ?_) <;> try exact rfl))
       all_goals try (exfalso; omega)
       exact ⟨(k, ps ++ [[c, 2 + x]], n * (2 + x), t3, _), ⟨r, by simp only; omega, by simp; omega⟩, ⟨rfl, rfl, rfl, rfl, by exact own_LL rfl, rfl, int_eq (by simp), trivial⟩, by simp only; omega⟩
    | f + 1, h1 =>
     rw [cop] at h1
     by_cases hg : 1 < (Int.gcd c (2 + x) : Int)
     ·rw [if_pos hg] at h1
      repeat' (first | (refine Two.mk ?_ ?_ <;> intro _) | (guard_target =~ CallN_; first | refine RunU.cons (sC_ (hD1) (.sh (.sh .nil)) (.sh wS_ (.sh wS_ .nil)) rfl) ?_) | refine goA ?_ | (guard_target =~ IsG; first | refine psA ?_ | (guard_target =~ CallS_; first | refine RunU.doit rfl rfl (sC_ (hD1) (.sh (.sh .nil)) (.sh wS_ (.sh wS_ .nil)) rfl) ?_) | refine gdA ?_) | refine nxA ?_ | ((first | refine DoneN.ret (.cell inferInstance rfl rfl .nil) rfl ?_ ?_ | refine DoneN.normal (.cell inferInstance rfl rfl .nil) rfl ?_ ?_) <;> try exact rfl))
      all_goals try (exfalso; omega)
      exact ⟨(c + 1, f), ⟨h1, by simp only; omega, by simp only; omega⟩, ⟨rfl, rfl, rfl, rfl, rfl, rfl, rfl, rfl, rfl, trivial⟩, by simp only; omega⟩
     ·rw [if_neg hg] at h1
      subst h1
      repeat' (first | (refine Two.mk ?_ ?_ <;> intro _) | (guard_target =~ CallN_; first | refine RunU.cons (sC_ (hD1) (.sh (.sh .nil)) (.sh wS_ (.sh wS_ .nil)) rfl) ?_) | refine goA ?_ | (guard_target =~ IsG; first | refine psA ?_ | (guard_target =~ CallS_; first | refine RunU.doit rfl rfl (sC_ (hD1) (.sh (.sh .nil)) (.sh wS_ (.sh wS_ .nil)) rfl) ?_) | refine gdA ?_) | refine nxA ?_ | ((first | refine DoneN.ret (.cell inferInstance rfl rfl .nil) rfl ?_ ?_ | refine DoneN.normal (.cell inferInstance rfl rfl .nil) rfl ?_ ?_) <;> try exact rfl))
      all_goals try (exfalso; omega)
      refine WpA.loop_slots (ι := Int × Nat) (fun q => [(0, .own 0 (dSs l t3)), (1, vI most), (2, vI term), (6, .own 3 (.pt true [.sl true 1 []])), (7, .own id (.sl true 1 (LL ps))), (8, vI n), (9, vI ((k + 1 : Nat) : Int)), (10, vI (2 + x)), (11, vI q.1)]) (fun q => cop (2 + x) q.1 q.2 = C2 ∧ 0 ≤ q.1 ∧ q.1 + q.2 ≤ 60) (fun q => q.2) (c + (2 + x), 5) ⟨hC2, by simp only; omega, by simp only; omega⟩ ⟨rfl, rfl, rfl, rfl, rfl, rfl, rfl, rfl, rfl, trivial⟩ ?_
      rintro ⟨c, f⟩ st nx ⟨h1, h2, h3⟩
      simp only at h1 h2 h3
      dsimp only
      have hD := hD c (by omega)
      match f, h1 with
      | 0, h1 =>
       have h1 : c = C2 := h1
       subst h1
       repeat' (first | (refine Two.mk ?_ ?_ <;> intro _) | (guard_target =~ CallN_; first | refine RunU.cons (sC_ (hD) (.sh (.sh .nil)) (.sh wS_ (.sh wS_ .nil)) rfl) ?_) | refine goA ?_ | (guard_target =~ IsG; first | refine psA ?_ | (guard_target =~ CallS_; first | refine RunU.doit rfl rfl (sC_ (hD) (.sh (.sh .nil)) (.sh wS_ (.sh wS_ .nil)) rfl) ?_) | refine gdA ?_) | refine nxA ?_ | ((first | refine DoneN.ret (.cell inferInstance rfl rfl .nil) rfl ?_ ?_ | refine DoneN.normal (.cell inferInstance rfl rfl .nil) rfl ?_ ?_) <;> try exact rfl))
       all_goals try (exfalso; omega)
       exact ⟨(k, ps ++ [[c, 2 + x]], n * (2 + x), t3, _), ⟨r, by simp only; omega, by simp; omega⟩, ⟨rfl, rfl, rfl, rfl, by exact own_LL rfl, rfl, int_eq (by simp), trivial⟩, by simp only; omega⟩
      | f + 1, h1 =>
       rw [cop] at h1
       by_cases hg : 1 < (Int.gcd c (2 + x) : Int)
       ·rw [if_pos hg] at h1
        repeat' (first | (refine Two.mk ?_ ?_ <;> intro _) | (guard_target =~ CallN_; first | refine RunU.cons (sC_ (hD) (.sh (.sh .nil)) (.sh wS_ (.sh wS_ .nil)) rfl) ?_) | refine goA ?_ | (guard_target =~ IsG; first | refine psA ?_ | (guard_target =~ CallS_; first | refine RunU.doit rfl rfl (sC_ (hD) (.sh (.sh .nil)) (.sh wS_ (.sh wS_ .nil)) rfl) ?_) | refine gdA ?_) | refine nxA ?_ | ((first | refine DoneN.ret (.cell inferInstance rfl rfl .nil) rfl ?_ ?_ | refine DoneN.normal (.cell inferInstance rfl rfl .nil) rfl ?_ ?_) <;> try exact rfl))
        all_goals try (exfalso; omega)
        exact ⟨(c + 1, f), ⟨h1, by simp only; omega, by simp only; omega⟩, ⟨rfl, rfl, rfl, rfl, rfl, rfl, rfl, rfl, rfl, trivial⟩, by simp only; omega⟩
       ·rw [if_neg hg] at h1
        subst h1
        repeat' (first | (refine Two.mk ?_ ?_ <;> intro _) | (guard_target =~ CallN_; first | refine RunU.cons (sC_ (hD) (.sh (.sh .nil)) (.sh wS_ (.sh wS_ .nil)) rfl) ?_) | refine goA ?_ | (guard_target =~ IsG; first | refine psA ?_ | (guard_target =~ CallS_; first | refine RunU.doit rfl rfl (sC_ (hD) (.sh (.sh .nil)) (.sh wS_ (.sh wS_ .nil)) rfl) ?_) | refine gdA ?_) | refine nxA ?_ | ((first | refine DoneN.ret (.cell inferInstance rfl rfl .nil) rfl ?_ ?_ | refine DoneN.normal (.cell inferInstance rfl rfl .nil) rfl ?_ ?_) <;> try exact rfl))
        all_goals try (exfalso; omega)
        exact ⟨(k, ps ++ [[c, 2 + x]], n * (2 + x), t3, _), ⟨r, by simp only; omega, by simp; omega⟩, ⟨rfl, rfl, rfl, rfl, by exact own_LL rfl, rfl, int_eq (by simp), trivial⟩, by simp only; omega⟩
   ·rw [c3, if_neg hps] at r
    generalize hC1 : cop (2 + x) (1 + y) 5 = C1 at *
    clear hc2
    repeat' (first | (refine Two.mk ?_ ?_ <;> intro _) | (guard_target =~ AtN 23; refine RunU.cons (sI_ (hN1) iA (.sh .nil) (.sh lcA .nil) xR_ xR_ rfl) ?_) | (guard_target =~ AtN 34; refine RunU.cons (sI_ (hN3) iA (.sh .nil) (.sh lcA .nil) xR_ xR_ rfl) ?_) | (guard_target =~ CallN_; first | refine RunU.cons (sI_ (hN2) iA (.mv vA_ .nil) (.mv .nil) xR_ xR_ rfl) ?_) | refine goA ?_ | (guard_target =~ IsG; first | refine psA ?_ | (guard_target =~ CallS_; first | refine RunU.doit rfl rfl (sI_ (hN2) iA (.mv vA_ .nil) (.mv .nil) xR_ xR_ rfl) ?_) | refine gdA ?_) | refine nxA ?_ | ((first | refine DoneN.ret (.cell inferInstance rfl rfl .nil) rfl ?_ ?_ | refine DoneN.normal (.cell inferInstance rfl rfl .nil) rfl ?_ ?_) <;> try exact rfl))
    all_goals try (exfalso; omega)
    refine WpA.loop_slots (ι := Int × Nat) (fun q => [(0, .own 0 (dSs l t3)), (1, vI most), (2, vI term), (6, .own 3 (.pt true [.sl true 1 []])), (7, .own id (.sl true 1 (LL ps))), (8, vI n), (9, vI ((k + 1 : Nat) : Int)), (10, vI (2 + x)), (11, vI q.1)]) (fun q => cop (2 + x) q.1 q.2 = C1 ∧ 0 ≤ q.1 ∧ q.1 + q.2 ≤ 60) (fun q => q.2) (1 + y, 5) ⟨hC1, by simp only; omega, by simp only; omega⟩ ⟨rfl, rfl, rfl, rfl, rfl, rfl, rfl, rfl, rfl, trivial⟩ ?_
    rintro ⟨c, f⟩ st nx ⟨h1, h2, h3⟩
    simp only at h1 h2 h3
    dsimp only
    have hD1 := hD c (by omega)
    match f, h1 with
    | 0, h1 =>
     have h1 : c = C1 := h1
     subst h1
     repeat' (first | (refine Two.mk ?_ ?_ <;> intro _) | (guard_target =~ CallN_; first | refine RunU.cons (sC_ (hD1) (.sh (.sh .nil)) (.sh wS_ (.sh wS_ .nil)) rfl) ?_) | refine goA ?_ | (guard_target =~ IsG; first | refine psA ?_ | (guard_target =~ CallS_; first | refine RunU.doit rfl rfl (sC_ (hD1) (.sh (.sh .nil)) (.sh wS_ (.sh wS_ .nil)) rfl) ?_) | refine gdA ?_) | refine nxA ?_ | ((first | refine DoneN.ret (.cell inferInstance rfl rfl .nil) rfl ?_ ?_ | refine DoneN.normal (.cell inferInstance rfl rfl .nil) rfl ?_ ?_) <;> try exact rfl))
     all_goals try (exfalso; omega)
     exact ⟨(k, ps ++ [[c, 2 + x]], n * (2 + x), t3, _), ⟨r, by simp only; omega, by simp; omega⟩, ⟨rfl, rfl, rfl, rfl, by exact own_LL rfl, rfl, int_eq (by simp), trivial⟩, by simp only; omega⟩
    | f + 1, h1 =>
     rw [cop] at h1
     by_cases hg : 1 < (Int.gcd c (2 + x) : Int)
     ·rw [if_pos hg] at h1
      repeat' (first | (refine Two.mk ?_ ?_ <;> intro _) | (guard_target =~ CallN_; first | refine RunU.cons (sC_ (hD1) (.sh (.sh .nil)) (.sh wS_ (.sh wS_ .nil)) rfl) ?_) | refine goA ?_ | (guard_target =~ IsG; first | refine psA ?_ | (guard_target =~ CallS_; first | refine RunU.doit rfl rfl (sC_ (hD1) (.sh (.sh .nil)) (.sh wS_ (.sh wS_ .nil)) rfl) ?_) | refine gdA ?_) | refine nxA ?_ | ((first | refine DoneN.ret (.cell inferInstance rfl rfl .nil) rfl ?_ ?_ | refine DoneN.normal (.cell inferInstance rfl rfl .nil) rfl ?_ ?_) <;> try exact rfl))
      all_goals try (exfalso; omega)
      exact ⟨(c + 1, f), ⟨h1, by simp only; omega, by simp only; omega⟩, ⟨rfl, rfl, rfl, rfl, rfl, rfl, rfl, rfl, rfl, trivial⟩, by simp only; omega⟩
     ·rw [if_neg hg] at h1
      subst h1
      repeat' (first | (refine Two.mk ?_ ?_ <;> intro _) | (guard_target =~ CallN_; first | refine RunU.cons (sC_ (hD1) (.sh (.sh .nil)) (.sh wS_ (.sh wS_ .nil)) rfl) ?_) | refine goA ?_ | (guard_target =~ IsG; first | refine psA ?_ | (guard_target =~ CallS_; first | refine RunU.doit rfl rfl (sC_ (hD1) (.sh (.sh .nil)) (.sh wS_ (.sh wS_ .nil)) rfl) ?_) | refine gdA ?_) | refine nxA ?_ | ((first | refine DoneN.ret (.cell inferInstance rfl rfl .nil) rfl ?_ ?_ | refine DoneN.normal (.cell inferInstance rfl rfl .nil) rfl ?_ ?_) <;> try exact rfl))
      all_goals try (exfalso; omega)
      exact ⟨(k, ps ++ [[c, 2 + x]], n * (2 + x), t3, _), ⟨r, by simp only; omega, by simp; omega⟩, ⟨rfl, rfl, rfl, rfl, by exact own_LL rfl, rfl, int_eq (by simp), trivial⟩, by simp only; omega⟩
 have pick : ∀ x, (∃ i, i < [1, 2, 3].length ∧ x = ([1, 2, 3] : List Int).getD i 0) → IsBr [x] ∨ [x] = [1] ∨ [x] = [2] ∨ [x] = [3] := by
  rintro x ⟨i, hi, rfl⟩
  match i, hi with
  | 0, _ => simp
  | 1, _ => simp
  | 2, _ => simp
 have gA := fun hc => main [xA] sA (.inl ⟨hc, rfl, rfl⟩)
 rcases hT with ⟨hc, hbr⟩ | ⟨hc, _⟩
 ·have hT1 := (tms_br hbr).len.1
  by_cases ht : T.getD (((T.length : Int) - 1).toNat * 1) 0 ≤ term
  ·by_cases hx : x1 = 0
   ·exact ⟨_, _, pick _ dC.1, dC.2.1, main [xC] sC (.inr ⟨⟨hc, hT1, ht⟩, .inl ⟨hx, rfl, rfl⟩⟩)⟩
   ·exact ⟨_, _, .inl hbr, d1.2.1, main T s1 (.inr ⟨⟨hc, hT1, ht⟩, .inr ⟨hx, rfl, rfl⟩⟩)⟩
  ·exact ⟨_, _, pick _ dA.1, dA.2.1, gA (.inr ⟨hc, hT1, by omega⟩)⟩
 ·exact ⟨_, _, pick _ dA.1, dA.2.1, gA (.inl hc)⟩
end Go.Proofs.YtmgmpnhlehonmaaGreat
