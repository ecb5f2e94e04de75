/- Milnor numbers by the reference; they are the program's. No condition. -/
import Derived.Test.YtmgmpnhlehonmaaGreatKGdA
import Derived.Test.YtmgmpnhlehonmaaGreatKHaC
import Derived.Test.YtmgmpnhlehonmaaGreatKPwC
import Derived.Test.YtmgmpnhlehonmaaGreatKSpA
import Derived.Test.YtmgmpnhlehonmaaGreatKNuA
import Derived.Test.YtmgmpnhlehonmaaGreatKPvX
set_option linter.unusedVariables false
set_option linter.unusedSimpArgs false
namespace Go.Proofs.YtmgmpnhlehonmaaGreat
set_option maxRecDepth 100000
set_option maxHeartbeats 20000000
open Go.Pv
open Go.ChangeShapes Go.WideShapes Go.ChangeAt Go.RowKit
attribute [local irreducible] RunU WpA Step CallG CallNG Done DoneN
instance fnOk60 : FnOk Tryz.prog 60 := ⟨_, Tryz.func60, rfl, by decide⟩
instance fnOk65 : FnOk Tryz.prog 65 := ⟨_, Tryz.func65, rfl, by decide⟩
instance fnOk93 : FnOk Tryz.prog 93 := ⟨_, Tryz.func93, rfl, by decide⟩
abbrev bytes (l : List Int) : List D := l.map fun x => D.lit (.int .u8 x)
abbrev aBy (l : List Int) : Arg := .sh (.one (.sl false 1 (bytes l)))
theorem bytes_get {l : List Int} {i : Nat} (h : i < l.length) : (bytes l)[i]? = some (.lit (.int .u8 (l.getD i 0))) := map_get 0 h
def wr (x : Int) : Int := IntKind.u64.wrap x
theorem wr_in (x : Int) : 0 ≤ wr x ∧ wr x ≤ 18446744073709551615 := by
 unfold wr
 simp only [IntKind.wrap, IntKind.bits, IntKind.signed]
 have h1 := Int.emod_nonneg x (show (2 : Int) ^ 64 ≠ 0 by decide)
 have h2 := Int.emod_lt_of_pos x (show (0 : Int) < 2 ^ 64 by decide)
 have e : (2 : Int) ^ 64 = 18446744073709551616 := by decide
 rw [e] at h1 h2
 simp
 omega
def shr33 (a : Int) : Int := a.fdiv (2 ^ 33)
def and24 (a : Int) : Int := IntKind.u64.wrap ((BitVec.ofInt 64 a &&& BitVec.ofInt 64 16777215).toNat : Int)
theorem and24_in (a : Int) : 0 ≤ and24 a ∧ and24 a ≤ 16777215 := by
 have h : (BitVec.ofInt 64 a &&& BitVec.ofInt 64 16777215).toNat ≤ 16777215 := by
  rw [BitVec.toNat_and]
  have e : (BitVec.ofInt 64 16777215).toNat = 16777215 := by decide
  rw [e]
  exact Nat.and_le_right
 have e3 : and24 a = wr ((BitVec.ofInt 64 a &&& BitVec.ofInt 64 16777215).toNat : Int) := rfl
 rw [e3]
 generalize (BitVec.ofInt 64 a &&& BitVec.ofInt 64 16777215).toNat = m at *
 have e2 : wr (m : Int) = m := by
  unfold wr
  simp only [IntKind.wrap, IntKind.bits, IntKind.signed]
  simp
  omega
 rw [e2]
 omega
theorem run_and24 {P : Program} (a : Int) (w : World) : (Op.intBits .and .u64 a 16777215 : Sem Value).run P w = .ok (.int .u64 (and24 a)) w := rfl
section
variable {P : Program} {n : NN} {nid : Nat} {st : Nat → AV} {d : Nat} {x y : Operand} {a b : Int} {S T T' : TypeId} {ty pos aft g}
theorem step_mul_u (hx : Go.Pv.Lit st x (.int .u64 a)) (hy : Go.Pv.Lit st y (.int .u64 b)) (hd : n d = true) : Step P n ⟨some d, .binOp .mul T x y T', ty, pos, aft, g⟩ nid st (rdOf x ++ rdOf y) [(d, .c (.lit (.int .u64 (wr (a * b)))))] := step_mul hx hy hd
theorem step_add_u (hx : Go.Pv.Lit st x (.int .u64 a)) (hy : Go.Pv.Lit st y (.int .u64 b)) (hd : n d = true) : Step P n ⟨some d, .binOp .add T x y T', ty, pos, aft, g⟩ nid st (rdOf x ++ rdOf y) [(d, .c (.lit (.int .u64 (wr (a + b)))))] := step_add hx hy hd
theorem step_conv_u {k0 k1 : IntKind} [hT : IntTy P T .u64] [hS : IntTy P S k1] (hx : Go.Pv.Lit st x (.int k0 a)) (hd : n d = true) : Step P n ⟨some d, .convert S T x, ty, pos, aft, g⟩ nid st (rdOf x) [(d, .c (.lit (.int .u64 (wr a))))] := step_convert hx hd
theorem step_shr33 (hx : Go.Pv.Lit st x (.int .u64 a)) (hy : Go.Pv.Lit st y (.int .u64 33)) (hd : n d = true) : Step P n ⟨some d, .binOp .shr T x y T', ty, pos, aft, g⟩ nid st (rdOf x ++ rdOf y) [(d, .c (.lit (.int .u64 (shr33 a))))] :=
 step_bin hx hy rfl (fun w => by simp [eqGuard_int, binOp, Op.shift, shr33, IntKind.bits]) hd
theorem step_and24 (hx : Go.Pv.Lit st x (.int .u64 a)) (hy : Go.Pv.Lit st y (.int .u64 16777215)) (hd : n d = true) : Step P n ⟨some d, .binOp .and T x y T', ty, pos, aft, g⟩ nid st (rdOf x ++ rdOf y) [(d, .c (.lit (.int .u64 (and24 a))))] :=
 step_bin hx hy rfl (fun w => by simp [eqGuard_int, binOp]; exact run_and24 a w) hd
end
attribute [local irreducible] wr shr33 and24
abbrev dSr (l : List Int) (a h : Int) : D := .pt true [.sl false 1 (bytes l), .lit (.int .i64 a), .lit (.int .u64 h)]
def hsh (l : List Int) : Nat → Int
 | 0 => wr (9341 + wr l.length)
 | j + 1 => wr (wr (wr (hsh l j * 1099511628211) + wr (l.getD (j * 1) 0)) + 11)
theorem hsh_in (l : List Int) : ∀ j, 0 ≤ hsh l j ∧ hsh l j ≤ 18446744073709551615
 | 0 => wr_in _
 | j + 1 => wr_in _
theorem from_c' (l : List Int) (hl : l.length ≤ 9223372036854775807) : ∃ h : Int, (0 ≤ h ∧ h ≤ 18446744073709551615) ∧ CallS Tryz.prog 60 [aBy l] [.one (dSr l 0 h)] [] := by
 refine ⟨hsh l (min l.length 4096), hsh_in _ _, ?_⟩
 refine callS_of _ Tryz.func60 rfl Tryz.ntmps60 ?_
 repeat' (first | (refine Two.mk ?_ ?_ <;> intro _) | (guard_target =~ IsN; first | refine RunU.cons (step_conv_u rfl rfl) ?_ | refine RunU.cons (step_add_u rfl rfl rfl) ?_) | refine goA ?_ | (guard_target =~ IsG; first | refine psA ?_ | refine gdA ?_) | refine nxA ?_ | refine Done.ret (.one rA_ .nil) (.sh .nil) ?_ rfl)
 refine WpA.loop_slots2 (fun j id => [(0, .c (.sl false 1 (bytes l))), (3, .own id (dSr l 0 (hsh l j))), (4, .c (.lit (.int .i64 j)))]) (fun j => j ≤ l.length ∧ j ≤ 4096) (fun j => l.length - j) 0 _ ⟨by omega, by omega⟩ ⟨rfl, rfl, rfl, trivial⟩ ?_
 rintro j id s nx ⟨hj, hj2⟩
 by_cases hlt : j < l.length ∧ j < 4096
 ·repeat' (first | (refine Two.mk ?_ ?_ <;> intro _) | (guard_target =~ IsN; first | refine RunU.cons (step_conv_u rfl rfl) ?_ | refine RunU.cons (step_add_u rfl rfl rfl) ?_ | refine RunU.cons (step_mul_u rfl rfl rfl) ?_ | refine RunU.cons (step_load_sh rfl (bytes_get (by omega)) rfl) ?_) | refine goA ?_ | (guard_target =~ IsG; first | refine psA ?_ | refine gdA ?_) | refine nxA ?_ | refine Done.ret (.one rA_ .nil) (.sh .nil) ?_ rfl)
  all_goals try (exfalso; omega)
  all_goals exact ⟨j + 1, ⟨by omega, by omega⟩, ⟨_, rfl, rfl, int_eq (by omega), trivial⟩, by omega⟩
 ·have ej : j = min l.length 4096 := by omega
  rw [← ej]
  repeat' (first | (refine Two.mk ?_ ?_ <;> intro _) | refine goA ?_ | (guard_target =~ IsG; first | refine psA ?_ | refine gdA ?_) | refine nxA ?_ | refine Done.ret (.one rA_ .nil) (.sh .nil) ?_ rfl)
  all_goals first | rfl | (exfalso; omega)
theorem next_c' (l : List Int) (hl : l.length ≤ 9223372036854775807) (hb : ∀ i, 0 ≤ l.getD i 0 ∧ l.getD i 0 ≤ 255) (a h n : Int) (ha : 0 ≤ a ∧ a ≤ l.length) : ∃ (x a' h' : Int), (0 ≤ x ∧ (n < 1 → x = 0) ∧ (1 ≤ n → x < n)) ∧ (0 ≤ a' ∧ a' ≤ l.length) ∧
  CallNS Tryz.prog 65 (dSr l a h) [aI n] [rI x] (dSr l a' h') := by
 by_cases hn : n < 1
 ·refine ⟨0, a, h, ⟨by omega, fun _ => rfl, fun _ => by omega⟩, ha, ?_⟩
  refine cN_ _ Tryz.func65 rfl Tryz.ntmps65 ?_
  repeat' (first | (refine Two.mk ?_ ?_ <;> intro _) | refine goA ?_ | refine nxA ?_ | ((first | refine DoneN.ret (.one rA_ .nil) rfl ?_ ?_ | refine DoneN.normal (.one rA_ .nil) rfl ?_ ?_) <;> try exact rfl))
  all_goals first | rfl | (exfalso; omega)
 ·have hp := and24_in (shr33 (wr (wr (h * 6364136223846793005) + 1442695040888963407)))
  by_cases hlt : a < l.length
  ·have hbb := hb (a.toNat * 1)
   refine ⟨(and24 (shr33 (wr (wr (h * 6364136223846793005) + 1442695040888963407))) + l.getD (a.toNat * 1) 0) % n, a + 1, wr (wr (h * 6364136223846793005) + 1442695040888963407), ⟨Int.emod_nonneg _ (by omega), fun h => absurd h hn, fun _ => Int.emod_lt_of_pos _ (by omega)⟩, by omega, ?_⟩
   refine cN_ _ Tryz.func65 rfl Tryz.ntmps65 ?_
   repeat' (first | (refine Two.mk ?_ ?_ <;> intro _) | (guard_target =~ IsN; first | refine RunU.cons (step_add_u rfl rfl rfl) ?_ | refine RunU.cons (step_mul_u rfl rfl rfl) ?_ | refine RunU.cons (step_shr33 rfl rfl rfl) ?_ | refine RunU.cons (step_and24 rfl rfl rfl) ?_ | refine RunU.cons (step_load_sh rfl (bytes_get (by omega)) rfl) ?_) | refine goA ?_ | refine nxA ?_ | ((first | refine DoneN.ret (.one rA_ .nil) rfl ?_ ?_ | refine DoneN.normal (.one rA_ .nil) rfl ?_ ?_) <;> try exact rfl))
   all_goals first | rfl | (exfalso; omega)
  ·refine ⟨and24 (shr33 (wr (wr (h * 6364136223846793005) + 1442695040888963407))) % n, a, wr (wr (h * 6364136223846793005) + 1442695040888963407), ⟨Int.emod_nonneg _ (by omega), fun h => absurd h hn, fun _ => Int.emod_lt_of_pos _ (by omega)⟩, ha, ?_⟩
   refine cN_ _ Tryz.func65 rfl Tryz.ntmps65 ?_
   repeat' (first | (refine Two.mk ?_ ?_ <;> intro _) | (guard_target =~ IsN; first | refine RunU.cons (step_add_u rfl rfl rfl) ?_ | refine RunU.cons (step_mul_u rfl rfl rfl) ?_ | refine RunU.cons (step_shr33 rfl rfl rfl) ?_ | refine RunU.cons (step_and24 rfl rfl rfl) ?_) | refine goA ?_ | refine nxA ?_ | ((first | refine DoneN.ret (.one rA_ .nil) rfl ?_ ?_ | refine DoneN.normal (.one rA_ .nil) rfl ?_ ?_) <;> try exact rfl))
   all_goals first | rfl | (exfalso; omega)
theorem pick_c (l : List Int) (hl : l.length ≤ 9223372036854775807) (hb : ∀ i, 0 ≤ l.getD i 0 ∧ l.getD i 0 ≤ 255) (a h : Int) (L : List Int) (h1 : 1 ≤ L.length ∧ L.length ≤ 1000) (ha : 0 ≤ a ∧ a ≤ l.length) : ∃ (i : Nat) (a' h' : Int), i < L.length ∧ (0 ≤ a' ∧ a' ≤ l.length) ∧
  CallNS Tryz.prog 93 (dSr l a h) [.mv (.one (.sl true 1 (ints L)))] [rI (L.getD i 0)] (dSr l a' h') := by
 obtain ⟨x, a', h', ⟨q1, _, q3⟩, q4, hN⟩ := next_c' l hl hb a h L.length ha
 refine ⟨x.toNat * 1, a', h', by omega, q4, ?_⟩
 refine cN_ _ Tryz.func93 rfl Tryz.ntmps93 ?_
 repeat' (first | (refine Two.mk ?_ ?_ <;> intro _) | (guard_target =~ CallN_; first | refine RunU.cons (sI_ (hN) iA (.sh .nil) (.sh lcA .nil) xR_ xR_ rfl) ?_) | refine goA ?_ | refine nxA ?_ | ((first | refine DoneN.ret (.one rA_ .nil) rfl ?_ ?_ | refine DoneN.normal (.one rA_ .nil) rfl ?_ ?_) <;> try exact rfl))
 all_goals first | rfl | (exfalso; omega)
end Go.Proofs.YtmgmpnhlehonmaaGreat
namespace Go.Pv
open Go.RowKit
section
variable {P : Program} {n : NN} {nid : Nat} {st : Nat → AV} {f : Fr} {X : Nat → Prop} {a : Act} {w : World} {ρ : Nat → Rho} {L : Nat → List Nat} {M : List Nat}
theorem res_slot {F : Nat → Prop} {w : World} {rs : List V} {us : List Value} {Lr : List Nat} {nid : Nat} (ρ : Nat → Rho) (hv : VRs F w rs us Lr) :
  ∃ ρ2 : Nat → Rho, (∀ i, i ≠ nid → ρ2 i = ρ i) ∧ SR F w ρ2 (resAV nid rs) (retVal us) Lr ∧ ∀ i ∈ (resAV nid rs).ids, i = nid := by
 have root : ∀ d, (resAV nid [V.one d] = .own nid d) → ∀ u r L1, RD F w d r u L1 → ∃ ρ2 : Nat → Rho, (∀ i, i ≠ nid → ρ2 i = ρ i) ∧ SR F w ρ2 (resAV nid [V.one d]) u L1 ∧ ∀ i ∈ (resAV nid [V.one d]).ids, i = nid := by
  intro d e u r L1 h
  refine ⟨fun i => if i = nid then r else ρ i, fun i hi => if_neg hi, ?_, fun i hi => ?_⟩
  ·rw [e]; simp only [SR, if_true]; exact h
  ·rw [e] at hi; simpa [AV.ids] using hi
 have hl := hv.length
 match rs, hv, hl with
 | [], hv, hl =>
  simp only [VRs] at hv
  obtain ⟨rfl, rfl⟩ := hv
  exact ⟨ρ, fun _ _ => rfl, by simp only [resAV, SR], fun i hi => by simp [resAV, AV.ids] at hi⟩
 | [.one (.lit u)], hv, hl =>
  simp only [VRs] at hv
  obtain ⟨u', us', L1, L2, rfl, rfl, ⟨r, h1⟩, rfl, rfl⟩ := hv
  simp only [RD] at h1
  obtain ⟨rfl, h2, rfl⟩ := h1
  exact ⟨ρ, fun _ _ => rfl, by simp only [resAV, SR, RD, retVal]; exact ⟨rfl, fun _ => undef, trivial, h2, trivial⟩, fun i hi => by simp [resAV, AV.ids] at hi⟩
 | [.one (.sl o sz cs)], hv, hl =>
  simp only [VRs] at hv
  obtain ⟨u', us', L1, L2, rfl, rfl, ⟨r, h1⟩, rfl, rfl⟩ := hv
  rw [List.append_nil]
  exact root _ rfl _ r _ h1
 | [.one (.pt o cs)], hv, hl =>
  simp only [VRs] at hv
  obtain ⟨u', us', L1, L2, rfl, rfl, ⟨r, h1⟩, rfl, rfl⟩ := hv
  rw [List.append_nil]
  exact root _ rfl _ r _ h1
 | [.one .hole], hv, hl =>
  simp only [VRs] at hv
  obtain ⟨u', us', L1, L2, rfl, rfl, ⟨r, h1⟩, rfl, rfl⟩ := hv
  rw [List.append_nil]
  exact root _ rfl _ r _ h1
 | [.one (.fn g cs)], hv, hl =>
  simp only [VRs] at hv
  obtain ⟨u', us', L1, L2, rfl, rfl, ⟨r, h1⟩, rfl, rfl⟩ := hv
  rw [List.append_nil]
  exact root _ rfl _ r _ h1
 | [.agg ds], hv, hl =>
  simp only [VRs] at hv
  obtain ⟨u', us', L1, L2, rfl, rfl, h1, rfl, rfl⟩ := hv
  refine ⟨ρ, fun _ _ => rfl, ?_, fun i hi => by simp only [resAV, AV.ids, idss_raws] at hi; simp at hi⟩
  have := SR_av (ρ := ρ) h1
  simpa [V.av, retVal, resAV] using this
 | v1 :: v2 :: vs, hv, hl =>
  have e : resAV nid (v1 :: v2 :: vs) = .tup ((v1 :: v2 :: vs).map V.av) := rfl
  rw [e]
  refine ⟨ρ, fun _ _ => rfl, ?_, fun i hi => by simp only [AV.ids, idss_avs] at hi; simp at hi⟩
  simp only [SR]
  refine ⟨us, ?_, SRs_avs _ us Lr hv⟩
  match us, hl with
  | [u], hl => simp at hl
  | [], hl => simp at hl
  | u1 :: u2 :: us', _ => rfl
theorem sV_ {d0 : Nat} {K : FuncId} {x : Operand} {xs : List Operand} {ts : Array TypeId} {args : List Arg} {rs : List V} {d d' dd : D} {xr id : Nat} {path rd rd1 rd2 : List Nat} {up : List (Nat × AV)} {ty pos aft g} [FnOk P K]
  (hc : CallNS P K d args rs d') (hi : IoAt st x xr id path dd d rd) (hm : Moves (put st xr (.own id (dd.put path .hole))) xs args rd1 up) (hr : ReadsF (puts (put st xr (.own id (dd.put path .hole))) up) xs args rd2)
  (hx : puts (put st xr (.own id (dd.put path .hole))) up xr = .own id (dd.put path .hole)) (hne : (d0 == xr) = false) (hd : n d0 = true) :
  Step P n ⟨some d0, .call ⟨.value (.func K), (x :: xs).toArray, ts⟩, ty, pos, aft, g⟩ nid st (rd ++ (rd1 ++ rd2)) ((xr, .own id (dd.put path .hole)) :: (up ++ [(d0, resAV nid rs), (xr, .own id (dd.put path d'))])) := by
 intro X st' hs hX f a w hn hrep Kk Q hK
 obtain ⟨ρ, L, h⟩ := hrep
 subst hn
 have hne : d0 ≠ xr := by simpa using hne
 have hi' := hi.agree (st' := st') fun s hs' => hs s (List.mem_append_left _ hs')
 have ag : ∀ s, st' s = st s → put st' xr (.own id (dd.put path .hole)) s = put st xr (.own id (dd.put path .hole)) s := fun s e => by unfold put; split <;> simp_all
 have hm' := hm.agree (st' := put st' xr (.own id (dd.put path .hole))) fun s hs' => ag s (hs s (by simp [hs']))
 have hidX : X id := by
  have := h.ids xr
  rw [hi'.own.1] at this
  exact this id (by simp [AV.ids])
 obtain ⟨L0, M0, h0, hv0⟩ := h.toM.lendN hi'
 obtain ⟨L', M1, h1, h2⟩ := h0.moves hm'
 simp only [puts] at hK
 rw [puts_append] at hK
 rw [List.nil_append] at h1
 have hr' := hr.agree (st' := puts (put st' xr (.own id (dd.put path .hole))) up) fun s hs' => puts_agree _ _ (ag s (hs s (by simp [hs'])))
 have h3 := args_ofF h1 h2 hr'
 have hx' : puts (put st' xr (.own id (dd.put path .hole))) up xr = .own id (dd.put path .hole) := by
  exact (puts_agree up xr (by simp [put])).trans hx
 refine wp_of_enter (run_call a.eval rfl w) ?_
 have e : (x :: xs).toArray.map a.eval = (a.eval x :: xs.map a.eval).toArray := by simp
 rw [e]
 refine (hc w _ _ M0 M1 f.F ((ρ id).sub path) (fun g hg => ⟨h1.rep.F_lt hg, fun hm => (h1.bound g hm).2 hg⟩) hv0 h3 h1.nd (fun g hg => (h1.bound g hg).1)).mono ?_
 rintro e w' ⟨us, Lr, Lo, rfl, hk, hv, hout, hnd, hL⟩
 have hv := hv.same (F' := f.F) (fun g (hg : Res false f.F g) => hg.2) (fun _ _ => rfl) (fun _ _ => rfl)
 obtain ⟨ρ2, q1, q2, q3⟩ := res_slot (nid := nid) ρ hv
 rw [List.nodup_append] at hnd
 obtain ⟨ndr, ndo, dro⟩ := hnd
 have hidn : id ≠ nid := fun e => hX (e ▸ hidX)
 refine ⟨_, rfl, ?_⟩
 have hxs := h1.rep.slots xr
 rw [hx'] at hxs
 simp only [SR] at hxs
 have hnav := nav_put path dd d .hole hi.own.2.1
 obtain ⟨v1, A, L1, B, eL, h5, hset⟩ := RD.focus path _ _ _ _ hxs .hole hnav
 simp only [RD] at h5
 obtain ⟨hv1, _, rfl⟩ := h5
 have hev : a.eval x = v1 := by rw [hv1, Rho.sub_nil]; exact hi'.eval h
 rw [hev] at hout
 have hFs : ∀ g, f.F g → Same w w' g := fun g hg => hk.block g (h1.rep.F_lt hg) (fun hm => (h1.bound g hm).2 hg)
 have hLx : ∀ t, ∀ g ∈ L' t, Same w w' g := fun t g hg => hk.block g (h1.rep.bound t g hg).1 (h1.disj t g hg)
 have hfin := hset w' d' ((ρ id).sub path) Lo hFs (fun g hg => hLx xr g (by rw [eL]; rcases hg with hg | hg <;> simp [hg])) (RD.same (fun g (hg : Res false f.F g) => hg.2) (fun _ _ => rfl) d' _ _ Lo hout (fun _ _ => rfl))
 rw [put_put path dd d .hole d' hi.own.2.1, Rho.set_sub] at hfin
 refine hK _ _ ⟨ρ2, fun s => if s = xr then A ++ (Lo ++ B) else if s = d0 then Lr else L' s, ?_⟩
 have hL0 : ∀ g ∈ Lo, g ∉ L' xr := fun g hg hg' => by
  rcases (hL g (by simp [hg])).2 with h | h
  ·exact h1.disj xr g hg' h
  ·have := (h1.rep.bound xr g hg').1; omega
 have hndx := h1.rep.nodup xr
 rw [eL] at hndx
 have hst : ∀ s, s ≠ xr → s ≠ d0 → puts (puts (put st' xr (.own id (dd.put path .hole))) up) [(d0, resAV nid rs), (xr, .own id (dd.put path d'))] s = puts (put st' xr (.own id (dd.put path .hole))) up s := fun s h1 h2 => by
  simp only [puts]; rw [put_other _ _ _ _ h1, put_other _ _ _ _ h2]
 refine h1.step (fun s => s = xr ∨ s = d0) (M0 ++ M1) _ _ _ w' _ _ (put_defers _ _ _) (put_size _ _ _) (hold_put _ hd) hk (fun g hg => .inr hg) (fun i hi => q1 i (fun e => hX (e ▸ hi))) (fun s hs' => ?_) (fun s hs' => ?_) (fun s u hs' hu hsu g hg hgu => ?_) (fun _ h => .inl h) (fun s hs' i hi => ?_)
 ·simp only [not_or] at hs'
  exact ⟨hst s hs'.1 hs'.2, tmp_put_other _ _ _ _ hs'.2, by simp [hs'.1, hs'.2]⟩
 ·by_cases hsx : s = xr
  ·subst hsx
   rw [if_pos rfl, tmp_put_other _ _ _ _ (Ne.symm hne)]
   simp only [puts, put_same, SR]
   rw [q1 id hidn]
   refine ⟨hfin, ?_, fun g hg => ?_⟩
   ·have hd2 : ∀ g ∈ Lo, g ∉ A ∧ g ∉ B := fun g hg => by
     have := hL0 g hg
     rw [eL] at this
     simp only [List.mem_append, not_or] at this
     exact ⟨this.1, this.2.2⟩
    simp only [List.nodup_append, List.mem_append] at hndx ⊢
    grind
   ·simp only [List.mem_append] at hg
    rcases hg with hg | hg | hg
    ·have : g ∈ L' s := by rw [eL]; simp [hg]
     exact ⟨Nat.lt_of_lt_of_le (h1.rep.bound s g this).1 hk.size, .inl ⟨s, .inl rfl, this⟩⟩
    ·exact ⟨(hL g (by simp [hg])).1, .inr (hL g (by simp [hg])).2⟩
    ·have : g ∈ L' s := by rw [eL]; simp [hg]
     exact ⟨Nat.lt_of_lt_of_le (h1.rep.bound s g this).1 hk.size, .inl ⟨s, .inl rfl, this⟩⟩
  ·have hs0 : s = d0 := hs'.resolve_left hsx
   subst hs0
   rw [if_neg hsx, if_pos rfl, tmp_put_same _ _ _ (h1.rep.size _ hd)]
   simp only [puts]
   rw [put_other _ _ _ _ hsx, put_same]
   exact ⟨q2, ndr, fun g hg => ⟨(hL g (by simp [hg])).1, .inr (hL g (by simp [hg])).2⟩⟩
 ·have hLrB : ∀ t, t = xr → ∀ g ∈ A ++ (Lo ++ B), g ∉ Lr := fun t et g hg hgr => by
   simp only [List.mem_append] at hg
   have old : g ∈ L' xr → False := fun hx => by
    rcases (hL g (by simp [hgr])).2 with h | h
    ·exact h1.disj xr g hx h
    ·have := (h1.rep.bound xr g hx).1; omega
   rcases hg with hg | hg | hg
   ·exact old (by rw [eL]; simp [hg])
   ·exact dro g hgr g hg rfl
   ·exact old (by rw [eL]; simp [hg])
  by_cases hsx : s = xr
  ·have hu0 : u ≠ xr := fun e => hsu (hsx.trans e.symm)
   have hu' : u = d0 := hu.resolve_left hu0
   rw [if_neg hu0, if_pos hu'] at hgu
   rw [if_pos hsx] at hg
   exact hLrB s hsx g hg hgu
  ·have hs0 : s = d0 := hs'.resolve_left hsx
   rw [if_neg hsx, if_pos hs0] at hg
   have hux : u = xr := hu.resolve_right fun e => hsu (hs0.trans e.symm)
   rw [if_pos hux] at hgu
   exact hLrB u hux g hgu hg
 ·by_cases hsx : s = xr
  ·subst hsx
   simp only [puts, put_same, AV.ids, List.mem_singleton] at hi
   exact .inl (by rw [hi]; exact hidX)
  ·have hs0 : s = d0 := hs'.resolve_left hsx
   subst hs0
   simp only [puts] at hi
   rw [put_other _ _ _ _ hsx, put_same] at hi
   exact .inr (q3 i hi)
end
end Go.Pv
namespace Go.Proofs.YtmgmpnhlehonmaaGreat
set_option maxHeartbeats 20000000
open Go.Pv
open Go.ChangeShapes Go.WideShapes Go.ChangeAt Go.RowKit
attribute [local irreducible] RunU WpA Step CallG CallNG Done DoneN
def divTo (l : List Int) : Nat → Int
 | 0 => 0
 | j + 1 => (Int.gcd (divTo l j) (l.getD j 0) : Int)
def divs (l : List Int) : Nat → List Int
 | 0 => []
 | j + 1 => divs l j ++ [divTo l (j + 1)]
theorem divs_len (l : List Int) : ∀ j, (divs l j).length = j
 | 0 => rfl
 | j + 1 => by simp [divs, divs_len l j]
theorem divTo_bound {l : List Int} (h : ∀ i, 0 ≤ l.getD i 0 ∧ l.getD i 0 ≤ 1000000000) : ∀ j, 0 ≤ divTo l j ∧ divTo l j ≤ 1000000000
 | 0 => by simp [divTo]
 | j + 1 => by
  have h1 := divTo_bound h j
  have h2 := h j
  simp only [divTo]
  refine ⟨by omega, ?_⟩
  by_cases h0 : l.getD j 0 = 0
  ·rw [h0, Int.gcd_zero_right]; omega
  ·have := Int.gcd_le_right (a := divTo l j) (show 0 < l.getD j 0 by omega)
   omega
def Strict (l : List Int) : Prop := ∀ i, i < l.length → 0 < i → l.getD (i - 1) 0 < l.getD i 0
instance decStrict (l : List Int) : Decidable (Strict l) := by unfold Strict; infer_instance
def Falls (l : List Int) : Prop := (∀ i, i < l.length → 0 < i → divTo l (i + 1) < divTo l i) ∧ divTo l l.length = 1
instance decFalls (l : List Int) : Decidable (Falls l) := by unfold Falls; infer_instance
def IsBr (l : List Int) : Prop := 0 < l.length ∧ (1 ≤ l.getD 0 0 ∧ l.getD 0 0 ≤ 64) ∧ Strict l ∧ Within l 1 2000 ∧ Falls l
instance decIsBr (l : List Int) : Decidable (IsBr l) := by unfold IsBr; infer_instance
theorem divs_at (l : List Int) : ∀ j i, i < j → (divs l j).getD i 0 = divTo l (i + 1)
 | j + 1, i, h => by
  have hl := divs_len l j
  simp only [divs, List.getD_eq_getElem?_getD]
  by_cases hi : i < j
  ·rw [List.getElem?_append_left (by omega), ← List.getD_eq_getElem?_getD, divs_at l j i hi]
  ·obtain rfl : i = j := by omega
   rw [List.getElem?_append_right (by omega), hl]
   simp
theorem divTo_ge {l : List Int} (h0 : 0 < l.getD 0 0) : ∀ j, 0 < divTo l (j + 1)
 | 0 => by
  simp only [divTo, Int.gcd_zero_left]
  omega
 | j + 1 => by
  have := Int.gcd_pos_of_ne_zero_left (l.getD (j + 1) 0) (show divTo l (j + 1) ≠ 0 by have := divTo_ge h0 j; omega)
  rw [divTo]
  omega
theorem divTo_down {l : List Int} (h0 : 0 < l.getD 0 0) (j : Nat) : divTo l (j + 1 + 1) ≤ divTo l (j + 1) := by
 have := Int.gcd_le_left (b := l.getD (j + 1) 0) (divTo_ge h0 j)
 rw [divTo]
 omega
theorem isBr_iff (l : List Int) : IsBr l ↔ 0 < l.length ∧ (1 ≤ l.getD 0 0 ∧ l.getD 0 0 ≤ 64) ∧ (∀ i, i < l.length → 0 < i → (l.getD (i - 1) 0 + 1 ≤ l.getD i 0 ∧ l.getD i 0 ≤ 2000) ∧ divTo l (i + 1) ≠ divTo l i) ∧ divTo l l.length = 1 := by
 constructor
 ·rintro ⟨h1, h2, h3, h4, h5, h6⟩
  refine ⟨h1, h2, fun i hi h0 => ⟨⟨?_, (h4 i hi).2⟩, ?_⟩, h6⟩
  ·have := h3 i hi h0; omega
  ·have := h5 i hi h0; omega
 ·rintro ⟨h1, h2, h3, h4⟩
  have hw : ∀ i, i < l.length → 1 ≤ l.getD i 0 ∧ l.getD i 0 ≤ 2000 := by
   intro i
   induction i with
   | zero => intro _; omega
   | succ i ih =>
    intro hi
    have := ih (by omega)
    have h5 := (h3 (i + 1) hi (by omega)).1
    simp only [Nat.add_sub_cancel] at h5
    omega
  refine ⟨h1, h2, fun i hi h0 => ?_, hw, fun i hi h0 => ?_, h4⟩
  ·have := (h3 i hi h0).1; omega
  ·have h5 := (h3 i hi h0).2
   obtain ⟨k, rfl⟩ : ∃ k, i = k + 1 := ⟨i - 1, by omega⟩
   have := divTo_down (l := l) (by omega) k
   omega
attribute [local irreducible] decStrict decFalls decIsBr decWithin Strict Falls IsBr Within
instance fnOk227 : FnOk Tryz.prog 227 := ⟨_, Tryz.func227, rfl, by decide⟩
theorem specIsBr_c (l : List Int) (hl : l.length ≤ 1000000000) : CallA Tryz.prog 227 [.sh (.agg [.sl false 1 (ints l)])] [rB (decide (IsBr l))] [] := by
 have hiff := isBr_iff l
 refine cA_ _ Tryz.func227 rfl Tryz.ntmps227 sO_ ?_
 by_cases h0 : 0 < l.length
 ·by_cases h1 : 1 ≤ l.getD 0 0 ∧ l.getD 0 0 ≤ 64
  ·have hd1 : l.getD 0 0 = divTo l 1 := by
    simp only [divTo, Int.gcd_zero_left]
    omega
   have hge := divTo_ge (l := l) (by omega)
   have hle : ∀ j, divTo l (j + 1) ≤ 64 := by
    intro j
    induction j with
    | zero => show divTo l 1 ≤ 64; omega
    | succ j ih =>
     have := divTo_down (l := l) (by omega) j
     omega
   repeat' (first | (refine Two.mk ?_ ?_ <;> intro _) | (guard_target =~ CallN_; first | refine RunU.cons (sC_ (l01In_c _ _ _) (.sh (.sh (.sh .nil))) (.sh wS_ (.sh wS_ (.sh wS_ .nil))) rfl) ?_) | refine goA ?_ | (guard_target =~ IsG; first | refine psA ?_ | (guard_target =~ CallS_; first | refine RunU.doit rfl rfl (sC_ (l01In_c _ _ _) (.sh (.sh (.sh .nil))) (.sh wS_ (.sh wS_ (.sh wS_ .nil))) rfl) ?_) | refine gdA ?_) | refine nxA ?_ | refine Done.ret (.one rA_ .nil) (.sh .nil) ?_ rfl)
   all_goals try (exfalso; omega)
   all_goals try (exact absurd h1 ‹_›)
   refine WpA.loop_slots (ι := Nat) (fun j => [(3, vL l), (4, vI (divTo l (j + 1))), (5, vI ((j : Int) + 1))]) (fun j => j + 1 ≤ l.length ∧ (1 ≤ l.getD j 0 ∧ l.getD j 0 ≤ 2000) ∧ ∀ i, i < j + 1 → 0 < i → (l.getD (i - 1) 0 + 1 ≤ l.getD i 0 ∧ l.getD i 0 ≤ 2000) ∧ divTo l (i + 1) ≠ divTo l i) (fun j => l.length - j) 0 ⟨by omega, by omega, fun i h1 h2 => absurd h1 (by omega)⟩ ⟨rfl, int_eq hd1, rfl, trivial⟩ ?_
   intro j s nx hj
   have e1 : (j + 1) * 1 = j + 1 := by omega
   have e2 : ((j : Int) + 1 - 1).toNat * 1 = j := by omega
   have hj2 := hj.2.1
   have hgj := hge j
   have hlj := hle j
   by_cases hlt : j + 1 < l.length
   ·rw [← e2] at hj2
    repeat' (first | (refine Two.mk ?_ ?_ <;> intro _) | (guard_target =~ CallN_; first | refine RunU.cons (sC_ (l01In_c _ _ _) (.sh (.sh (.sh .nil))) (.sh wS_ (.sh wS_ (.sh wS_ .nil))) rfl) ?_ | refine RunU.cons (sC_ (gcd_c (divTo l (j + 1)) (l.getD ((j + 1) * 1) 0) (by omega) (by omega)) (.sh (.sh .nil)) (.sh wS_ (.sh wS_ .nil)) rfl) ?_) | refine goA ?_ | (guard_target =~ IsG; first | refine psA ?_ | (guard_target =~ CallS_; first | refine RunU.doit rfl rfl (sC_ (l01In_c _ _ _) (.sh (.sh (.sh .nil))) (.sh wS_ (.sh wS_ (.sh wS_ .nil))) rfl) ?_ | refine RunU.doit rfl rfl (sC_ (gcd_c (divTo l (j + 1)) (l.getD ((j + 1) * 1) 0) (by omega) (by omega)) (.sh (.sh .nil)) (.sh wS_ (.sh wS_ .nil)) rfl) ?_) | refine gdA ?_) | refine nxA ?_ | refine Done.ret (.one rA_ .nil) (.sh .nil) ?_ rfl)
    all_goals try (exfalso; omega)
    case refine_1.refine_1 h3 h4 =>
     rw [e1, e2] at h4
     have : ¬ IsBr l := fun hb => by
      have := ((hiff.1 hb).2.2.1 (j + 1) hlt (by omega)).1
      simp only [Nat.add_sub_cancel] at this
      exact h4 this
     simp [this]
    case refine_1.refine_2.refine_1 h3 h4 h5 =>
     rw [e1] at h5
     have : ¬ IsBr l := fun hb => ((hiff.1 hb).2.2.1 (j + 1) hlt (by omega)).2 h5
     simp [this]
    case refine_1.refine_2.refine_2 h3 h4 h5 =>
     rw [e1, e2] at h4
     rw [e1] at h5
     rw [e2] at hj2
     refine ⟨j + 1, ⟨by omega, by omega, fun i hi h0' => ?_⟩, ⟨rfl, int_eq (by rw [e1]; rfl), int_eq (by omega), trivial⟩, by omega⟩
     by_cases e : i = j + 1
     ·subst e; simp only [Nat.add_sub_cancel]; exact ⟨h4, h5⟩
     ·exact hj.2.2 i (by omega) h0'
   ·have hl1 : j + 1 = l.length := by omega
    have hb : IsBr l ↔ divTo l (j + 1) = 1 := by
     rw [hiff, hl1]
     exact ⟨fun q => q.2.2.2, fun q => ⟨h0, h1, fun i hi h0' => hj.2.2 i (by omega) h0', q⟩⟩
    repeat' (first | (refine Two.mk ?_ ?_ <;> intro _) | refine goA ?_ | (guard_target =~ IsG; first | refine psA ?_ | refine gdA ?_) | refine nxA ?_ | refine Done.ret (.one rA_ .nil) (.sh .nil) ?_ rfl)
    all_goals try (exfalso; omega)
    simp [hb]
  ·have hn : ¬ IsBr l := fun hb => h1 (hiff.1 hb).2.1
   repeat' (first | (refine Two.mk ?_ ?_ <;> intro _) | (guard_target =~ CallN_; first | refine RunU.cons (sC_ (l01In_c _ _ _) (.sh (.sh (.sh .nil))) (.sh wS_ (.sh wS_ (.sh wS_ .nil))) rfl) ?_) | refine goA ?_ | (guard_target =~ IsG; first | refine psA ?_ | (guard_target =~ CallS_; first | refine RunU.doit rfl rfl (sC_ (l01In_c _ _ _) (.sh (.sh (.sh .nil))) (.sh wS_ (.sh wS_ (.sh wS_ .nil))) rfl) ?_) | refine gdA ?_) | refine nxA ?_ | refine Done.ret (.one rA_ .nil) (.sh .nil) ?_ rfl)
   all_goals try (exfalso; omega)
   all_goals try (exact absurd ‹_› h1)
   all_goals simp [hn]
 ·have hn : ¬ IsBr l := fun hb => h0 (hiff.1 hb).1
  repeat' (first | (refine Two.mk ?_ ?_ <;> intro _) | refine goA ?_ | (guard_target =~ IsG; first | refine psA ?_ | refine gdA ?_) | refine nxA ?_ | refine Done.ret (.one rA_ .nil) (.sh .nil) ?_ rfl)
  all_goals try (exfalso; omega)
  all_goals simp [hn]
end Go.Proofs.YtmgmpnhlehonmaaGreat
namespace Go.Proofs.YtmgmpnhlehonmaaGreat
set_option maxHeartbeats 20000000
open Go.Pv
open Go.ChangeShapes Go.WideShapes Go.ChangeAt Go.RowKit
attribute [local irreducible] RunU WpA Step CallG CallNG Done DoneN
abbrev vAb (x : Int) : AV := .c (.lit (.int .i64 x))
abbrev aBr1 (l : List Int) : Arg := .sh (.agg [.sl false 1 (ints l)])
def stp : Nat → Int → Int → List (List Int)
 | 0, _, _ => []
 | f + 1, a, b => if 0 < b then [a / b, b] :: stp f b (a % b) else []
theorem stp_zero (f : Nat) (a : Int) : stp f a 0 = [] := by cases f <;> simp [stp]
theorem stp_len : ∀ (f : Nat) (a b : Int), (stp f a b).length ≤ f
 | 0, _, _ => Nat.le_refl _
 | f + 1, a, b => by
  have := stp_len f b (a % b)
  rw [stp]; split <;> simp <;> omega
theorem stp_two : ∀ (f : Nat) (a b : Int), 0 ≤ a → 0 ≤ b → ∀ s ∈ stp f a b, s.length = 2 ∧ (0 ≤ s.getD 0 0 ∧ s.getD 0 0 ≤ a + b) ∧ 0 < s.getD 1 0 ∧ s.getD 1 0 ≤ a + b
 | 0, _, _, _, _, s, h => by simp [stp] at h
 | f + 1, a, b, ha, hb, s, h => by
  rw [stp] at h
  split at h
  ·rename_i h0
   have hm := Int.emod_nonneg a (show b ≠ 0 by omega)
   have hl := Int.emod_lt_of_pos a h0
   have hma : a % b ≤ a := by
    have k1 := Int.mul_nonneg hb (Int.ediv_nonneg ha hb)
    have k2 := Int.mul_ediv_add_emod a b
    omega
   rcases List.mem_cons.1 h with rfl | h
   ·have h1 := Int.ediv_nonneg ha hb
    have h2 := Int.ediv_le_self b ha
    exact ⟨rfl, ⟨h1, show a / b ≤ a + b by omega⟩, h0, show b ≤ a + b by omega⟩
   ·obtain ⟨k1, k2, k3⟩ := stp_two f b (a % b) hb hm s h
    exact ⟨k1, ⟨k2.1, by omega⟩, k3.1, by omega⟩
  ·simp at h
def runL (R : List (List Int)) : List Int := R.flatMap fun s => List.replicate (s.getD 0 0).toNat (s.getD 1 0)
theorem runL_snoc (R : List (List Int)) (s : List Int) : runL (R ++ [s]) = runL R ++ List.replicate (s.getD 0 0).toNat (s.getD 1 0) := by simp [runL]
theorem runL_take {R : List (List Int)} {j : Nat} (h : j < R.length) : runL (R.take (j + 1)) = runL (R.take j) ++ List.replicate ((R.getD j []).getD 0 0).toNat ((R.getD j []).getD 1 0) := by
 rw [List.take_add_one, List.getElem?_eq_getElem h]
 simp only [Option.toList_some, runL_snoc]
 simp [List.getD, h]
theorem runL_le {R : List (List Int)} {B : Nat} (h : ∀ s ∈ R, s.getD 0 0 ≤ B) : (runL R).length ≤ R.length * B := by
 induction R with
 | nil => simp [runL]
 | cons s R ih =>
  have h1 := h s (by simp)
  have h2 := ih fun x hx => h x (by simp [hx])
  unfold runL at h2 ⊢
  rw [List.flatMap_cons, List.length_append, List.length_replicate, List.length_cons, Nat.add_mul]
  omega
structure Tms (l : List Int) : Prop where
 len : 1 ≤ l.length ∧ l.length ≤ 100
 bnd : ∀ i, 0 ≤ l.getD i 0 ∧ l.getD i 0 ≤ 2000
 asc : ∀ i, i + 1 < l.length → l.getD i 0 ≤ l.getD (i + 1) 0
 pos : 0 < l.getD 0 0
def runK (l : List Int) (j : Nat) : Int := l.getD (j + 1) 0 - (if j = 0 then 0 else l.getD j 0)
def seqL (l : List Int) : Nat → List Int
 | 0 => []
 | j + 1 => seqL l j ++ runL (stp ((divs l l.length).getD j 0).toNat (runK l j) ((divs l l.length).getD j 0))
def seqI (l : List Int) : List Int := if l.length = 1 then [1] else seqL l (l.length - 1)
theorem divs_bnd {l : List Int} (h : Tms l) (j : Nat) : 0 ≤ (divs l l.length).getD j 0 ∧ (divs l l.length).getD j 0 ≤ 2000 := by
 have key : ∀ n, n ≤ l.length → ∀ j, 0 ≤ (divs l n).getD j 0 ∧ (divs l n).getD j 0 ≤ 2000 := by
  intro n
  induction n with
  | zero => intro _ j; simp [divs]
  | succ n ih =>
   intro hn j
   rw [divs]
   rcases Nat.lt_trichotomy j n with hj | hj | hj
   ·rw [List.getD_eq_getElem?_getD, List.getElem?_append_left (by rw [divs_len]; exact hj), ← List.getD_eq_getElem?_getD]
    exact ih (by omega) j
   ·subst hj
    rw [List.getD_eq_getElem?_getD, List.getElem?_append_right (by rw [divs_len]; exact Nat.le_refl _), divs_len, Nat.sub_self]
    simp only [List.getElem?_cons_zero, Option.getD_some, divTo]
    refine ⟨by omega, ?_⟩
    have h2 := h.bnd j
    by_cases h0 : l.getD j 0 = 0
    ·have hj0 : 0 < j := by
      rcases Nat.eq_zero_or_pos j with e | e
      ·subst e; have := h.pos; omega
      ·exact e
     have hpos : ∀ i, i < l.length → 0 < l.getD i 0 := by
      intro i
      induction i with
      | zero => intro _; exact h.pos
      | succ i ih2 => intro hi; have := h.asc i hi; have := ih2 (by omega); omega
     have := hpos j (by omega); omega
    ·have := Int.gcd_le_right (a := divTo l j) (show 0 < l.getD j 0 by omega)
     omega
   ·rw [List.getD_eq_getElem?_getD, List.getElem?_eq_none (by simp [divs_len]; omega)]
    simp
 exact key _ (Nat.le_refl _) j
theorem runK_bnd {l : List Int} (h : Tms l) {j : Nat} (hj : j + 1 < l.length) : 0 ≤ runK l j ∧ runK l j ≤ 2000 := by
 unfold runK
 have h1 := h.bnd (j + 1)
 have h2 := h.bnd j
 have h3 := h.asc j hj
 split <;> omega
theorem seqL_len {l : List Int} (h : Tms l) : ∀ j, j + 1 ≤ l.length → (seqL l j).length ≤ 8000000 * j
 | 0, _ => by simp [seqL]
 | j + 1, hj => by
  have ih := seqL_len h j (by omega)
  have hd := divs_bnd h j
  have hk := runK_bnd h (j := j) (by omega)
  rw [seqL, List.length_append]
  have h3 := runL_le (R := stp ((divs l l.length).getD j 0).toNat (runK l j) ((divs l l.length).getD j 0)) (B := 4000) fun s hs => by
   have := (stp_two _ _ _ hk.1 hd.1 s hs).2.1; omega
  have h4 := stp_len ((divs l l.length).getD j 0).toNat (runK l j) ((divs l l.length).getD j 0)
  have h5 : (stp ((divs l l.length).getD j 0).toNat (runK l j) ((divs l l.length).getD j 0)).length * 4000 ≤ 2000 * 4000 := Nat.mul_le_mul_right _ (by omega)
  omega
theorem runL_mem {R : List (List Int)} {x : Int} (h : x ∈ runL R) : ∃ s ∈ R, x = s.getD 1 0 := by
 unfold runL at h
 rw [List.mem_flatMap] at h
 obtain ⟨s, hs, hx⟩ := h
 exact ⟨s, hs, (List.mem_replicate.1 hx).2⟩
theorem seqL_mem {l : List Int} (h : Tms l) : ∀ j, j + 1 ≤ l.length → ∀ x ∈ seqL l j, 0 ≤ x ∧ x ≤ 4000
 | 0, _, x, hx => by simp [seqL] at hx
 | j + 1, hj, x, hx => by
  rw [seqL] at hx
  rcases List.mem_append.1 hx with hx | hx
  ·exact seqL_mem h j (by omega) x hx
  ·obtain ⟨s, hs, rfl⟩ := runL_mem hx
   have hd := divs_bnd h j
   have hk := runK_bnd h (j := j) (by omega)
   have := (stp_two _ _ _ hk.1 hd.1 s hs).2.2
   omega
theorem seqI_ok {l : List Int} (h : Tms l) : (seqI l).length ≤ 800000000 ∧ ∀ i, 0 ≤ (seqI l).getD i 0 ∧ (seqI l).getD i 0 ≤ 4000 := by
 have key : (seqI l).length ≤ 800000000 ∧ ∀ x ∈ seqI l, 0 ≤ x ∧ x ≤ 4000 := by
  unfold seqI
  split
  ·simp
  ·have hl := h.len
   have := seqL_len h (l.length - 1) (by omega)
   exact ⟨by omega, seqL_mem h _ (by omega)⟩
 refine ⟨key.1, fun i => ?_⟩
 by_cases hi : i < (seqI l).length
 ·rw [List.getD_eq_getElem?_getD, List.getElem?_eq_getElem hi]; exact key.2 _ (List.getElem_mem hi)
 ·rw [List.getD_eq_getElem?_getD, List.getElem?_eq_none (by omega)]; simp
instance fnOk224 : FnOk Tryz.prog 224 := ⟨_, Tryz.func224, rfl, by decide⟩
instance fnOk225 : FnOk Tryz.prog 225 := ⟨_, Tryz.func225, rfl, by decide⟩
instance fnOk212 : FnOk Tryz.prog 212 := ⟨_, Tryz.func212, rfl, by decide⟩
theorem l01Steps_c (a b : Int) (ha : 0 ≤ a ∧ a ≤ 1000000) (hb : 0 ≤ b ∧ b ≤ 1000000) : CallA Tryz.prog 225 [aI a, aI b] [rLL (stp b.toNat a b)] [] := by
 generalize hT : stp b.toNat a b = T
 refine cA_ _ Tryz.func225 rfl Tryz.ntmps225 sO_ ?_
 repeat' (first | (refine Two.mk ?_ ?_ <;> intro _) | refine goA ?_ | refine nxA ?_ | refine Done.ret (.one rA_ .nil) (.sh (.sh .nil)) ?_ rfl)
 refine WpA.loop_slots (ι := List (List Int) × Int × Int × Nat × Nat) (fun q => [(0, vAb q.2.1), (1, vAb q.2.2.1), (5, .own q.2.2.2.2 (.sl true 1 (LL q.1)))]) (fun q => (0 ≤ q.2.1 ∧ q.2.1 ≤ 1000000) ∧ (0 ≤ q.2.2.1 ∧ q.2.2.1 ≤ 1000000) ∧ q.2.2.1.toNat ≤ q.2.2.2.1 ∧ q.1.length + q.2.2.2.1 ≤ 2000000 ∧ q.1 ++ stp q.2.2.2.1 q.2.1 q.2.2.1 = T) (fun q => q.2.2.1.toNat) ([], a, b, b.toNat, _) ⟨ha, hb, Nat.le_refl _, by simp; omega, by simpa using hT⟩ ⟨rfl, rfl, xR_, trivial⟩ ?_
 rintro ⟨L, x, y, f, i5⟩ s nx ⟨hx, hy, hf, hL, hT2⟩
 simp only at hx hy hf hL hT2
 dsimp only
 clear hT
 by_cases h0 : 0 < y
 ·have hm := Int.emod_nonneg x (show y ≠ 0 by omega)
  have hl := Int.emod_lt_of_pos x h0
  obtain ⟨f', rfl⟩ : ∃ f', f = f' + 1 := ⟨f - 1, by omega⟩
  rw [stp, if_pos h0] at hT2
  repeat' (first | (refine Two.mk ?_ ?_ <;> intro _) | refine goA ?_ | refine nxA ?_ | refine Done.ret (.one rA_ .nil) (.sh (.sh .nil)) ?_ rfl)
  all_goals try (exfalso; omega)
  all_goals exact ⟨(L ++ [[x / y, y]], y, x % y, f', _), ⟨hy, ⟨hm, by simp only; omega⟩, by simp only; omega, by simp; omega, by rw [← hT2]; simp⟩, ⟨rfl, rfl, by exact own_LL rfl, trivial⟩, by simp only; omega⟩
 ·have e : y = 0 := by omega
  subst e
  rw [stp_zero, List.append_nil] at hT2
  subst hT2
  repeat' (first | (refine Two.mk ?_ ?_ <;> intro _) | refine goA ?_ | refine nxA ?_ | refine Done.ret (.one rA_ .nil) (.sh (.sh .nil)) ?_ rfl)
  all_goals first | rfl | (exfalso; omega)
theorem divTo_one {l : List Int} (h : 0 ≤ l.getD 0 0) : divTo l 1 = l.getD 0 0 := by
 simp only [divTo]
 have := Int.gcd_zero_left (a := l.getD 0 0)
 omega
theorem divs_last' (l : List Int) (j : Nat) : (divs l (j + 1)).getD j 0 = divTo l (j + 1) := by
 rw [divs, List.getD_eq_getElem?_getD, List.getElem?_append_right (by rw [divs_len]; exact Nat.le_refl _), divs_len, Nat.sub_self]
 rfl
theorem l03Divisors_c (l : List Int) (h : Tms l) : CallA Tryz.prog 224 [aBr1 l] [rL (divs l l.length)] [] := by
 obtain ⟨hl1, hl2⟩ := h.len
 have h0 := h.pos
 have hb := h.bnd
 have hdt := divTo_bound (l := l) (fun i => by have := hb i; omega)
 have e1 : [l.getD (0 * 1) 0] = divs l 1 := by
  rw [divs, divs, divTo_one (by omega)]; rfl
 refine cA_ _ Tryz.func224 rfl Tryz.ntmps224 sO_ ?_
 repeat' (first | (refine Two.mk ?_ ?_ <;> intro _) | refine goA ?_ | refine nxA ?_ | refine Done.ret (.one rA_ .nil) (.sh .nil) ?_ rfl)
 all_goals try (exfalso; omega)
 refine WpA.loop_slots2 (fun j i3 => [(1, .own 1 (.pt true [.sl false 1 (ints l)])), (3, .own i3 (.sl true 1 (ints (divs l (j + 1))))), (4, vAb ((j + 1 : Nat) : Int))]) (fun j => j + 1 ≤ l.length) (fun j => l.length - j) 0 _ (by omega) ⟨rfl, by exact own_ints e1, rfl, trivial⟩ ?_
 intro j i3 s nx hj
 have hdl := divs_len l (j + 1)
 by_cases hlt : j + 1 < l.length
 ·have ej : ((((j + 1 : Nat) : Int) - 1).toNat) * 1 = j := by omega
  have hla := divs_last' l j
  rw [← ej] at hla
  rw [show (divs l (((((j + 1 : Nat) : Int) - 1).toNat) * 1 + 1)) = divs l (j + 1) by rw [ej]] at hla
  have hd1 := hdt (((((j + 1 : Nat) : Int) - 1).toNat) * 1 + 1)
  have hb1 := hb ((j + 1) * 1)
  rw [← hla] at hd1
  have hG := gcd_c ((divs l (j + 1)).getD (((((j + 1 : Nat) : Int) - 1).toNat) * 1) 0) (l.getD ((j + 1) * 1) 0) (by omega) (by omega)
  have e2 : divs l (j + 1) ++ [(((divs l (j + 1)).getD (((((j + 1 : Nat) : Int) - 1).toNat) * 1) 0).gcd (l.getD ((j + 1) * 1) 0) : Int)] = divs l (j + 1 + 1) := by
   rw [hla, ej, Nat.mul_one]; rfl
  clear hdt e1
  repeat' (first | (refine Two.mk ?_ ?_ <;> intro _) | (guard_target =~ CallN_; first | refine RunU.cons (sC_ (hG) (.sh (.sh .nil)) (.sh wS_ (.sh wS_ .nil)) rfl) ?_) | refine goA ?_ | refine nxA ?_ | refine Done.ret (.one rA_ .nil) (.sh .nil) ?_ rfl)
  all_goals try (exfalso; omega)
  all_goals exact ⟨j + 1, by omega, ⟨_, rfl, by exact own_ints e2, int_eq (by omega), trivial⟩, by omega⟩
 ·have ej : j + 1 = l.length := by omega
  rw [ej]
  clear hdt e1
  repeat' (first | (refine Two.mk ?_ ?_ <;> intro _) | refine goA ?_ | refine nxA ?_ | refine Done.ret (.one rA_ .nil) (.sh .nil) ?_ rfl)
  all_goals first | rfl | (exfalso; omega)
def runsL (l : List Int) : Nat → List (List Int)
 | 0 => []
 | j + 1 => runsL l j ++ stp ((divs l l.length).getD j 0).toNat (runK l j) ((divs l l.length).getD j 0)
theorem runsL_len {l : List Int} (h : Tms l) : ∀ j, (runsL l j).length ≤ 2000 * j
 | 0 => by simp [runsL]
 | j + 1 => by
  have ih := runsL_len h j
  have hd := divs_bnd h j
  have h4 := stp_len ((divs l l.length).getD j 0).toNat (runK l j) ((divs l l.length).getD j 0)
  rw [runsL, List.length_append]; omega
theorem runsL_mem {l : List Int} (h : Tms l) : ∀ j, j + 1 ≤ l.length → ∀ s ∈ runsL l j, s.length = 2 ∧ (0 ≤ s.getD 0 0 ∧ s.getD 0 0 ≤ 4000) ∧ 0 < s.getD 1 0 ∧ s.getD 1 0 ≤ 4000
 | 0, _, s, hs => by simp [runsL] at hs
 | j + 1, hj, s, hs => by
  rw [runsL] at hs
  rcases List.mem_append.1 hs with hs | hs
  ·exact runsL_mem h j (by omega) s hs
  ·have hd := divs_bnd h j
   have hk := runK_bnd h (j := j) (by omega)
   obtain ⟨q1, q2, q3⟩ := stp_two _ _ _ hk.1 hd.1 s hs
   exact ⟨q1, by omega, by omega⟩
theorem own_LLapp {id : Nat} {A B C : List (List Int)} (e : A ++ B = C) : AV.own id (.sl true 1 (LL A ++ LL B)) = AV.own id (.sl true 1 (LL C)) := by rw [← e]; simp
theorem l04Runs_c (l : List Int) (h : Tms l) : CallA Tryz.prog 212 [aBr1 l] [rLL (runsL l (l.length - 1))] [] := by
 obtain ⟨hl1, hl2⟩ := h.len
 have hD := l03Divisors_c l h
 have hdl := divs_len l l.length
 have hdb := divs_bnd h
 have hsl := runsL_len h
 have hkb : ∀ j, j + 1 < l.length → 0 ≤ runK l j ∧ runK l j ≤ 2000 := fun j hj => runK_bnd h hj
 have hstep : ∀ j, runsL l (j + 1) = runsL l j ++ stp ((divs l l.length).getD j 0).toNat (runK l j) ((divs l l.length).getD j 0) := fun j => rfl
 generalize divs l l.length = dv at *
 refine cA_ _ Tryz.func212 rfl Tryz.ntmps212 sO_ ?_
 repeat' (first | (refine Two.mk ?_ ?_ <;> intro _) | (guard_target =~ CallN_; first | refine RunU.cons (sC_ (hD) (.sh .nil) (.shAgg rfl gA_ .nil) rfl) ?_) | refine goA ?_ | refine nxA ?_ | refine Done.ret (.one rA_ .nil) (.sh .nil) ?_ rfl)
 all_goals try (exfalso; omega)
 refine WpA.loop_ids2 (fun j i3 i4 => [(1, .own 1 (.pt true [.sl false 1 (ints l)])), (3, .own i3 (.sl true 1 (ints dv))), (4, .own i4 (.sl true 1 (LL (runsL l j)))), (5, vAb ((j + 1 : Nat) : Int))]) (fun j => j + 1 ≤ l.length) (fun j => l.length - j) 0 _ _ (by omega) ⟨rfl, xR_, xR_, rfl, trivial⟩ ?_
 intro j i3 i4 s nx hj
 have hsj := hsl j
 by_cases hlt : j + 1 < l.length
 ·have hk := hkb j hlt
  have hdj := hdb (((((j + 1 : Nat) : Int) - 1).toNat) * 1)
  have ej : ((((j + 1 : Nat) : Int) - 1).toNat) * 1 = j := by omega
  have hst := hstep j
  rw [show dv.getD j 0 = dv.getD (((((j + 1 : Nat) : Int) - 1).toNat) * 1) 0 by rw [ej]] at hst
  have hb1 := h.bnd ((j + 1) * 1)
  have hb2 := h.bnd (((((j + 1 : Nat) : Int) - 1).toNat) * 1)
  by_cases hj0 : j = 0
  ·subst hj0
   have e2 : runK l 0 = l.getD ((0 + 1) * 1) 0 := by unfold runK; rw [if_pos rfl]; simp
   rw [e2] at hk hst
   have hR := l01Steps_c (l.getD ((0 + 1) * 1) 0) (dv.getD (((((0 + 1 : Nat) : Int) - 1).toNat) * 1) 0) (by omega) (by omega)
   have hRl := stp_len (dv.getD (((((0 + 1 : Nat) : Int) - 1).toNat) * 1) 0).toNat (l.getD ((0 + 1) * 1) 0) (dv.getD (((((0 + 1 : Nat) : Int) - 1).toNat) * 1) 0)
   clear hD hdb hsl hkb hstep
   generalize stp (dv.getD (((((0 + 1 : Nat) : Int) - 1).toNat) * 1) 0).toNat (l.getD ((0 + 1) * 1) 0) (dv.getD (((((0 + 1 : Nat) : Int) - 1).toNat) * 1) 0) = R at *
   repeat' (first | (refine Two.mk ?_ ?_ <;> intro _) | (guard_target =~ CallN_; first | refine RunU.cons (sC_ (hR) (.sh (.sh .nil)) (.sh wS_ (.sh wS_ .nil)) rfl) ?_) | (guard_target =~ IsN; first | refine RunU.cons (step_append_give (.als rfl rfl) (.own rfl) (by simp; omega) rfl) ?_) | refine goA ?_ | refine nxA ?_ | refine Done.ret (.one rA_ .nil) (.sh .nil) ?_ rfl)
   all_goals try (exfalso; omega)
   all_goals exact ⟨0 + 1, by omega, ⟨_, _, rfl, rfl, by exact own_LLapp hst.symm, int_eq (by omega), trivial⟩, by omega⟩
  ·have e2 : runK l j = l.getD ((j + 1) * 1) 0 - l.getD (((((j + 1 : Nat) : Int) - 1).toNat) * 1) 0 := by unfold runK; rw [if_neg hj0, ej, Nat.mul_one]
   rw [e2] at hk hst
   have hR := l01Steps_c (l.getD ((j + 1) * 1) 0 - l.getD (((((j + 1 : Nat) : Int) - 1).toNat) * 1) 0) (dv.getD (((((j + 1 : Nat) : Int) - 1).toNat) * 1) 0) (by omega) (by omega)
   have hRl := stp_len (dv.getD (((((j + 1 : Nat) : Int) - 1).toNat) * 1) 0).toNat (l.getD ((j + 1) * 1) 0 - l.getD (((((j + 1 : Nat) : Int) - 1).toNat) * 1) 0) (dv.getD (((((j + 1 : Nat) : Int) - 1).toNat) * 1) 0)
   clear hD hdb hsl hkb hstep
   generalize stp (dv.getD (((((j + 1 : Nat) : Int) - 1).toNat) * 1) 0).toNat (l.getD ((j + 1) * 1) 0 - l.getD (((((j + 1 : Nat) : Int) - 1).toNat) * 1) 0) (dv.getD (((((j + 1 : Nat) : Int) - 1).toNat) * 1) 0) = R at *
   repeat' (first | (refine Two.mk ?_ ?_ <;> intro _) | (guard_target =~ CallN_; first | refine RunU.cons (sC_ (hR) (.sh (.sh .nil)) (.sh wS_ (.sh wS_ .nil)) rfl) ?_) | (guard_target =~ IsN; first | refine RunU.cons (step_append_give (.als rfl rfl) (.own rfl) (by simp; omega) rfl) ?_) | refine goA ?_ | refine nxA ?_ | refine Done.ret (.one rA_ .nil) (.sh .nil) ?_ rfl)
   all_goals try (exfalso; omega)
   all_goals exact ⟨j + 1, by omega, ⟨_, _, rfl, rfl, by exact own_LLapp hst.symm, int_eq (by omega), trivial⟩, by omega⟩
 ·have ej : j = l.length - 1 := by omega
  subst ej
  clear hD hdb hsl hkb hstep
  repeat' (first | (refine Two.mk ?_ ?_ <;> intro _) | refine goA ?_ | refine nxA ?_ | refine Done.ret (.one rA_ .nil) (.sh .nil) ?_ rfl)
  all_goals first | rfl | (exfalso; omega)
def hf2 (m : Int) : Int := m * (m - 1) / 2
theorem seqL_runs (l : List Int) : ∀ j, seqL l j = runL (runsL l j)
 | 0 => rfl
 | j + 1 => by
  rw [seqL, runsL, seqL_runs l j]
  simp [runL]
end Go.Proofs.YtmgmpnhlehonmaaGreat
