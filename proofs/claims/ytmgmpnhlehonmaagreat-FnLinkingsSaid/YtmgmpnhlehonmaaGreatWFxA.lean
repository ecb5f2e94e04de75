/- Drawn branches: branches of Newton pairs. No condition. -/
import Derived.Test.YtmgmpnhlehonmaaGreatWSpA
import Derived.Test.YtmgmpnhlehonmaaGreatWPwC
import Derived.Test.YtmgmpnhlehonmaaGreatWTy
import Derived.Test.YtmgmpnhlehonmaaGreatWGrL
import Derived.Test.YtmgmpnhlehonmaaGreatWPvX
set_option linter.unusedVariables false
set_option linter.unusedSimpArgs false
namespace Go.Proofs.YtmgmpnhlehonmaaGreat
set_option maxRecDepth 100000
set_option maxHeartbeats 20000000
open Go.Pv
open Go.ChangeShapes Go.WideShapes Go.ChangeAt Go.RowKit
attribute [local irreducible] Za WpA Zg Xf Zz Z6 Zd
instance fnOk60 : Zs Tryz.prog 60 := ⟨_, Tryz.func60, rfl, by decide⟩
instance fnOk65 : Zs Tryz.prog 65 := ⟨_, Tryz.func65, rfl, by decide⟩
instance fnOk93 : Zs Tryz.prog 93 := ⟨_, Tryz.func93, rfl, by decide⟩
abbrev bytes (l : List Int) : List D := l.map fun x => D.lit (.int .u8 x)
abbrev aBy (l : List Int) : Arg := .sh (.one (.sl false 1 (bytes l)))
theorem Zki {l : List Int} {i : Nat} (h : i < l.length) : (bytes l)[i]? = some (.lit (.int .u8 (l.getD i 0))) := H0 0 h
def wr (x : Int) : Int := IntKind.u64.wrap x
theorem Zz0 (x : Int) : 0 <= wr x /\ wr x <= 18446744073709551615 := by
 unfold wr
 simp only [IntKind.wrap, IntKind.bits, IntKind.signed]
 have h1 := Int.emod_nonneg x (show (2 : Int) ^ 64 ≠ 0 by decide)
 have h2 := Int.emod_lt_of_pos x (show (0 : Int) < 2 ^ 64 by decide)
 have e : (2 : Int) ^ 64 = 18446744073709551616 := by decide
 rw [e] at h1 h2
 simp
 omega
def Zkj (a : Int) : Int := a.fdiv (2 ^ 33)
def Zep (a : Int) : Int := IntKind.u64.wrap ((BitVec.ofInt 64 a &&& BitVec.ofInt 64 16777215).toNat : Int)
theorem Zwe (a : Int) : 0 <= Zep a /\ Zep a <= 16777215 := by
 have h : (BitVec.ofInt 64 a &&& BitVec.ofInt 64 16777215).toNat <= 16777215 := by
  rw [BitVec.toNat_and]
  have e : (BitVec.ofInt 64 16777215).toNat = 16777215 := by decide
  rw [e]
  exact Nat.and_le_right
 have e3 : Zep a = wr ((BitVec.ofInt 64 a &&& BitVec.ofInt 64 16777215).toNat : Int) := rfl
 rw [e3]
 generalize (BitVec.ofInt 64 a &&& BitVec.ofInt 64 16777215).toNat = m at *
 have e2 : wr (m : Int) = m := by
  unfold wr
  simp only [IntKind.wrap, IntKind.bits, IntKind.signed]
  simp
  omega
 rw [e2]
 omega
theorem Zsx {P : Program} (a : Int) (w : World) : (Op.intBits .and .u64 a 16777215 : Sem Value).run P w = .ok (.int .u64 (Zep a)) w := rfl
section
variable {P : Program} {n : NN} {nid : Nat} {st : Nat -> AV} {d : Nat} {x y : Operand} {a b : Int} {S T T' : TypeId} {ty pos aft g}
theorem Zbh (hx : Go.Pv.Lit st x (.int .u64 a)) (hy : Go.Pv.Lit st y (.int .u64 b)) (hd : n d = true) : Zg P n ⟨some d, .binOp .mul T x y T', ty, pos, aft, g⟩ nid st (Z5 x ++ Z5 y) [(d, .c (.lit (.int .u64 (wr (a * b)))))] := Zmn hx hy hd
theorem Kc (hx : Go.Pv.Lit st x (.int .u64 a)) (hy : Go.Pv.Lit st y (.int .u64 b)) (hd : n d = true) : Zg P n ⟨some d, .binOp .add T x y T', ty, pos, aft, g⟩ nid st (Z5 x ++ Z5 y) [(d, .c (.lit (.int .u64 (wr (a + b)))))] := Zmm hx hy hd
theorem Zeq {k0 k1 : IntKind} [hT : J0 P T .u64] [hS : J0 P S k1] (hx : Go.Pv.Lit st x (.int k0 a)) (hd : n d = true) : Zg P n ⟨some d, .convert S T x, ty, pos, aft, g⟩ nid st (Z5 x) [(d, .c (.lit (.int .u64 (wr a))))] := Ws hx hd
theorem Zih (hx : Go.Pv.Lit st x (.int .u64 a)) (hy : Go.Pv.Lit st y (.int .u64 33)) (hd : n d = true) : Zg P n ⟨some d, .binOp .shr T x y T', ty, pos, aft, g⟩ nid st (Z5 x ++ Z5 y) [(d, .c (.lit (.int .u64 (Zkj a))))] :=
 Vo hx hy rfl (fun w => by simp [Xs, binOp, Op.shift, Zkj, IntKind.bits]) hd
theorem Zii (hx : Go.Pv.Lit st x (.int .u64 a)) (hy : Go.Pv.Lit st y (.int .u64 16777215)) (hd : n d = true) : Zg P n ⟨some d, .binOp .and T x y T', ty, pos, aft, g⟩ nid st (Z5 x ++ Z5 y) [(d, .c (.lit (.int .u64 (Zep a))))] :=
 Vo hx hy rfl (fun w => by simp [Xs, binOp]; exact Zsx a w) hd
end
attribute [local irreducible] wr Zkj Zep
abbrev dSr (l : List Int) (a h : Int) : D := .pt true [.sl false 1 (bytes l), .lit (.int .i64 a), .lit (.int .u64 h)]
def hsh (l : List Int) : Nat -> Int
 | 0 => wr (9341 + wr l.length)
 | j + 1 => wr (wr (wr (hsh l j * 1099511628211) + wr (l.getD (j * 1) 0)) + 11)
theorem Xay (l : List Int) : ∀ j, 0 <= hsh l j /\ hsh l j <= 18446744073709551615
 | 0 => Zz0 _
 | j + 1 => Zz0 _
theorem Zyw (l : List Int) (hl : l.length <= 9223372036854775807) : ∃ h : Int, (0 <= h /\ h <= 18446744073709551615) /\ Zjf Tryz.prog 60 [aBy l] [.one (dSr l 0 h)] [] := by
 refine ⟨hsh l (min l.length 4096), Xay _ _, ?_⟩
 refine Zbp _ Tryz.func60 rfl Tryz.ntmps60 ?_
 repeat' (first | (refine w2_ ?_ ?_ <;> intro _) | (guard_target =~ IsN; first | refine Za.cons (Zeq rfl rfl) ?_ | refine Za.cons (Kc rfl rfl rfl) ?_) | refine a1_ ?_|fail)
 refine WpA.loop_slots2 (fun j id => [(0, .c (.sl false 1 (bytes l))), (3, .own id (dSr l 0 (hsh l j))), (4, .c (.lit (.int .i64 j)))]) (fun j => j <= l.length /\ j <= 4096) (fun j => l.length - j) 0 _ ⟨by omega, by omega⟩ ⟨rfl, rfl, rfl, trivial⟩ ?_
 rintro j id s nx ⟨hj, hj2⟩
 by_cases hlt : j < l.length /\ j < 4096
 ·repeat' (first | (refine w2_ ?_ ?_ <;> intro _) | (guard_target =~ IsN; first | refine Za.cons (Zeq rfl rfl) ?_ | refine Za.cons (Kc rfl rfl rfl) ?_ | refine Za.cons (Zbh rfl rfl rfl) ?_ | refine Za.cons (Wp rfl (Zki j2) rfl) ?_) | refine a1_ ?_|fail)
  all_goals try (exfalso; omega)
  all_goals exact ⟨j + 1, ⟨by omega, by omega⟩, ⟨_, rfl, rfl, Zb j2, trivial⟩, by omega⟩
 ·have ej : j = min l.length 4096 := by omega
  rw [<- ej]
  repeat' (first | (refine w2_ ?_ ?_ <;> intro _) | refine a1_ ?_|fail)
  all_goals first | rfl | (exfalso; omega)
theorem Zrq (l : List Int) (hl : l.length <= 9223372036854775807) (hb : ∀ i, 0 <= l.getD i 0 /\ l.getD i 0 <= 255) (a h n : Int) (ha : 0 <= a /\ a <= l.length) : ∃ (x a' h' : Int), (0 <= x /\ (n < 1 -> x = 0) /\ (1 <= n -> x < n)) /\ (0 <= a' /\ a' <= l.length) /\
  Xn Tryz.prog 65 (dSr l a h) [aI n] [rI x] (dSr l a' h') := by
 by_cases hn : n < 1
 ·refine ⟨0, a, h, ⟨by omega, fun _ => rfl, fun _ => by omega⟩, ha, ?_⟩
  refine cN_ _ Tryz.func65 rfl Tryz.ntmps65 ?_
  repeat' (first | (refine w2_ ?_ ?_ <;> intro _) | refine ax_ ?_ | ((first | refine Zd.ret (.one rA_ .nil) rfl ?_ ?_ | refine Zd.normal (.one rA_ .nil) rfl ?_ ?_) <;> try exact rfl)|fail)
  all_goals first | rfl | (exfalso; omega)
 ·have hp := Zwe (Zkj (wr (wr (h * 6364136223846793005) + 1442695040888963407)))
  by_cases hlt : a < l.length
  ·have hbb := hb (a.toNat * 1)
   refine ⟨(Zep (Zkj (wr (wr (h * 6364136223846793005) + 1442695040888963407))) + l.getD (a.toNat * 1) 0) % n, a + 1, wr (wr (h * 6364136223846793005) + 1442695040888963407), ⟨Int.emod_nonneg _ j2, fun h => absurd h hn, fun _ => Int.emod_lt_of_pos _ j2⟩, by omega, ?_⟩
   refine cN_ _ Tryz.func65 rfl Tryz.ntmps65 ?_
   repeat' (first | (refine w2_ ?_ ?_ <;> intro _) | (guard_target =~ IsN; first | refine Za.cons (Kc rfl rfl rfl) ?_ | refine Za.cons (Zbh rfl rfl rfl) ?_ | refine Za.cons (Zih rfl rfl rfl) ?_ | refine Za.cons (Zii rfl rfl rfl) ?_ | refine Za.cons (Wp rfl (Zki j2) rfl) ?_) | refine ax_ ?_ | ((first | refine Zd.ret (.one rA_ .nil) rfl ?_ ?_ | refine Zd.normal (.one rA_ .nil) rfl ?_ ?_) <;> try exact rfl)|fail)
   all_goals first | rfl | (exfalso; omega)
  ·refine ⟨Zep (Zkj (wr (wr (h * 6364136223846793005) + 1442695040888963407))) % n, a, wr (wr (h * 6364136223846793005) + 1442695040888963407), ⟨Int.emod_nonneg _ j2, fun h => absurd h hn, fun _ => Int.emod_lt_of_pos _ j2⟩, ha, ?_⟩
   refine cN_ _ Tryz.func65 rfl Tryz.ntmps65 ?_
   repeat' (first | (refine w2_ ?_ ?_ <;> intro _) | (guard_target =~ IsN; first | refine Za.cons (Kc rfl rfl rfl) ?_ | refine Za.cons (Zbh rfl rfl rfl) ?_ | refine Za.cons (Zih rfl rfl rfl) ?_ | refine Za.cons (Zii rfl rfl rfl) ?_) | refine ax_ ?_ | ((first | refine Zd.ret (.one rA_ .nil) rfl ?_ ?_ | refine Zd.normal (.one rA_ .nil) rfl ?_ ?_) <;> try exact rfl)|fail)
   all_goals first | rfl | (exfalso; omega)
theorem Xaz (l : List Int) (hl : l.length <= 9223372036854775807) (hb : ∀ i, 0 <= l.getD i 0 /\ l.getD i 0 <= 255) (a h : Int) (L : List Int) (h1 : 1 <= L.length /\ L.length <= 1000) (ha : 0 <= a /\ a <= l.length) : ∃ (i : Nat) (a' h' : Int), i < L.length /\ (0 <= a' /\ a' <= l.length) /\
  Xn Tryz.prog 93 (dSr l a h) [.mv (.one (.sl true 1 (Ze L)))] [rI (L.getD i 0)] (dSr l a' h') := by
 obtain ⟨x, a', h', ⟨q1, _, q3⟩, q4, hN⟩ := Zrq l hl hb a h L.length ha
 refine ⟨x.toNat * 1, a', h', by omega, q4, ?_⟩
 refine cN_ _ Tryz.func93 rfl Tryz.ntmps93 ?_
 repeat' (first | (refine w2_ ?_ ?_ <;> intro _) | (guard_target =~ Zh; first | refine Za.cons (sI_ (hN) iA (.sh .nil) (.sh lcA .nil) xR_ xR_ rfl) ?_) | refine ax_ ?_ | ((first | refine Zd.ret (.one rA_ .nil) rfl ?_ ?_ | refine Zd.normal (.one rA_ .nil) rfl ?_ ?_) <;> try exact rfl)|fail)
 all_goals first | rfl | (exfalso; omega)
end Go.Proofs.YtmgmpnhlehonmaaGreat
namespace Go.Pv
open Go.RowKit
section
variable {P : Program} {n : NN} {nid : Nat} {st : Nat -> AV} {f : Fr} {X : Nat -> Prop} {a : Act} {w : World} {ρ : Nat -> Rho} {L : Nat -> List Nat} {M : List Nat}
theorem Zwf {F : Nat -> Prop} {w : World} {rs : List V} {us : List Value} {Lr : List Nat} {nid : Nat} (ρ : Nat -> Rho) (hv : VRs F w rs us Lr) :
  ∃ ρ2 : Nat -> Rho, (∀ i, i ≠ nid -> ρ2 i = ρ i) /\ SR F w ρ2 (Y3 nid rs) (X9 us) Lr /\ ∀ i ∈ (Y3 nid rs).ids, i = nid := by
 have root : ∀ d, (Y3 nid [V.one d] = .own nid d) -> ∀ u r L1, RD F w d r u L1 -> ∃ ρ2 : Nat -> Rho, (∀ i, i ≠ nid -> ρ2 i = ρ i) /\ SR F w ρ2 (Y3 nid [V.one d]) u L1 /\ ∀ i ∈ (Y3 nid [V.one d]).ids, i = nid := by
  intro d e u r L1 h
  refine ⟨fun i => if i = nid then r else ρ i, fun i hi => if_neg hi, ?_, fun i hi => ?_⟩
  ·rw [e]; simp only [SR, if_true]; exact h
  ·rw [e] at hi; simpa [AV.ids] using hi
 have hl := hv.length
 match rs, hv, hl with
 | [], hv, hl =>
  simp only [VRs] at hv
  obtain ⟨rfl, rfl⟩ := hv
  exact ⟨ρ, fun _ _ => rfl, by simp only [Y3, SR], fun i hi => by simp [Y3, AV.ids] at hi⟩
 | [.one (.lit u)], hv, hl =>
  simp only [VRs] at hv
  obtain ⟨u', us', L1, L2, rfl, rfl, ⟨r, h1⟩, rfl, rfl⟩ := hv
  simp only [RD] at h1
  obtain ⟨rfl, h2, rfl⟩ := h1
  exact ⟨ρ, fun _ _ => rfl, by simp only [Y3, SR, RD, X9]; exact ⟨rfl, fun _ => undef, trivial, h2, trivial⟩, fun i hi => by simp [Y3, AV.ids] at hi⟩
 | [.one (.sl o sz cs)], hv, hl =>
  simp only [VRs] at hv
  obtain ⟨u', us', L1, L2, rfl, rfl, ⟨r, h1⟩, rfl, rfl⟩ := hv
  rw [List.append_nil]
  exact root _ rfl _ r _ h1
 | [.one (.pt o cs)], hv, hl =>
  simp only [VRs] at hv
  obtain ⟨u', us', L1, L2, rfl, rfl, ⟨r, h1⟩, rfl, rfl⟩ := hv
  rw [List.append_nil]
  exact root _ rfl _ r _ h1
 | [.one .hole], hv, hl =>
  simp only [VRs] at hv
  obtain ⟨u', us', L1, L2, rfl, rfl, ⟨r, h1⟩, rfl, rfl⟩ := hv
  rw [List.append_nil]
  exact root _ rfl _ r _ h1
 | [.one (.fn g cs)], hv, hl =>
  simp only [VRs] at hv
  obtain ⟨u', us', L1, L2, rfl, rfl, ⟨r, h1⟩, rfl, rfl⟩ := hv
  rw [List.append_nil]
  exact root _ rfl _ r _ h1
 | [.agg ds], hv, hl =>
  simp only [VRs] at hv
  obtain ⟨u', us', L1, L2, rfl, rfl, h1, rfl, rfl⟩ := hv
  refine ⟨ρ, fun _ _ => rfl, ?_, fun i hi => by simp only [Y3, AV.ids, J8] at hi; simp at hi⟩
  have := Ztp (ρ := ρ) h1
  simpa [V.av, X9, Y3] using this
 | v1 :: v2 :: vs, hv, hl =>
  have e : Y3 nid (v1 :: v2 :: vs) = .tup ((v1 :: v2 :: vs).map V.av) := rfl
  rw [e]
  refine ⟨ρ, fun _ _ => rfl, ?_, fun i hi => by simp only [AV.ids, Zmj] at hi; simp at hi⟩
  simp only [SR]
  refine ⟨us, ?_, Zkv _ us Lr hv⟩
  match us, hl with
  | [u], hl => simp at hl
  | [], hl => simp at hl
  | u1 :: u2 :: us', _ => rfl
theorem sV_ {d0 : Nat} {K : FuncId} {x : Operand} {xs : List Operand} {ts : Array TypeId} {args : List Arg} {rs : List V} {d d' dd : D} {xr id : Nat} {path rd rd1 rd2 : List Nat} {up : List (Nat × AV)} {ty pos aft g} [Zs P K]
  (hc : Xn P K d args rs d') (hi : Qi st x xr id path dd d rd) (hm : Xr (put st xr (.own id (dd.put path .hole))) xs args rd1 up) (hr : Yl (Zn (put st xr (.own id (dd.put path .hole))) up) xs args rd2)
  (hx : Zn (put st xr (.own id (dd.put path .hole))) up xr = .own id (dd.put path .hole)) (hne : (d0 == xr) = false) (hd : n d0 = true) :
  Zg P n ⟨some d0, .call ⟨.value (.func K), (x :: xs).toArray, ts⟩, ty, pos, aft, g⟩ nid st (rd ++ (rd1 ++ rd2)) ((xr, .own id (dd.put path .hole)) :: (up ++ [(d0, Y3 nid rs), (xr, .own id (dd.put path d'))])) := by
 intro X st' hs hX f a w hn hrep Kk Q hK
 obtain ⟨ρ, L, h⟩ := hrep
 subst hn
 have hne : d0 ≠ xr := by simpa using hne
 have hi' := hi.agree (st' := st') fun s hs' => hs s (List.mem_append_left _ hs')
 have ag : ∀ s, st' s = st s -> put st' xr (.own id (dd.put path .hole)) s = put st xr (.own id (dd.put path .hole)) s := fun s e => by unfold put; split <;> simp_all
 have hm' := hm.agree (st' := put st' xr (.own id (dd.put path .hole))) fun s hs' => ag s (hs s q9)
 have hidX : X id := by
  have := h.ids xr
  rw [hi'.own.1] at this
  exact this id u3
 obtain ⟨L0, M0, h0, hv0⟩ := h.toM.lendN hi'
 obtain ⟨L', M1, h1, h2⟩ := h0.moves hm'
 simp only [Zn] at hK
 rw [Zx] at hK
 rw [List.nil_append] at h1
 have hr' := hr.agree (st' := Zn (put st' xr (.own id (dd.put path .hole))) up) fun s hs' => Xa _ _ (ag s (hs s q9))
 have h3 := He h1 h2 hr'
 have hx' : Zn (put st' xr (.own id (dd.put path .hole))) up xr = .own id (dd.put path .hole) := by
  exact (Xa up xr (by simp [put])).trans hx
 refine V6 (Kr a.eval rfl w) ?_
 have e : (x :: xs).toArray.map a.eval = (a.eval x :: xs.map a.eval).toArray := by simp
 rw [e]
 refine (hc w _ _ M0 M1 f.F ((ρ id).sub path) (fun g hg => ⟨h1.rep.F_lt hg, fun hm => (h1.bound g hm).2 hg⟩) hv0 h3 h1.nd (fun g hg => (h1.bound g hg).1)).mono ?_
 rintro e w' ⟨us, Lr, Lo, rfl, hk, hv, hout, hnd, hL⟩
 have hv := hv.same (F' := f.F) (fun g (hg : Res false f.F g) => hg.2) (fun _ _ => rfl) (fun _ _ => rfl)
 obtain ⟨ρ2, q1, q2, q3⟩ := Zwf (nid := nid) ρ hv
 rw [List.nodup_append] at hnd
 obtain ⟨ndr, ndo, dro⟩ := hnd
 have hidn : id ≠ nid := fun e => hX (e ▸ hidX)
 refine ⟨_, rfl, ?_⟩
 have hxs := h1.rep.slots xr
 rw [hx'] at hxs
 simp only [SR] at hxs
 have hnav := Zfs path dd d .hole hi.own.2.1
 obtain ⟨v1, A, L1, B, eL, h5, hset⟩ := RD.focus path _ _ _ _ hxs .hole hnav
 simp only [RD] at h5
 obtain ⟨hv1, _, rfl⟩ := h5
 have hev : a.eval x = v1 := by rw [hv1, Rho.sub_nil]; exact hi'.eval h
 rw [hev] at hout
 have hFs : ∀ g, f.F g -> Vh w w' g := fun g hg => hk.block g (h1.rep.F_lt hg) (fun hm => (h1.bound g hm).2 hg)
 have hLx : ∀ t, ∀ g ∈ L' t, Vh w w' g := fun t g hg => hk.block g (h1.rep.bound t g hg).1 (h1.disj t g hg)
 have hfin := hset w' d' ((ρ id).sub path) Lo hFs (fun g hg => hLx xr g (by rw [eL]; rcases hg with hg | hg <;> simp [hg])) (RD.same (fun g (hg : Res false f.F g) => hg.2) (fun _ _ => rfl) d' _ _ Lo hout (fun _ _ => rfl))
 rw [Zft path dd d .hole d' hi.own.2.1, Rho.set_sub] at hfin
 refine hK _ _ ⟨ρ2, fun s => if s = xr then A ++ (Lo ++ B) else if s = d0 then Lr else L' s, ?_⟩
 have hL0 : ∀ g ∈ Lo, g ∉ L' xr := fun g hg hg' => by
  rcases (hL g u5).2 with h | h
  ·exact h1.disj xr g hg' h
  ·have := (h1.rep.bound xr g hg').1; omega
 have hndx := h1.rep.nodup xr
 rw [eL] at hndx
 have hst : ∀ s, s ≠ xr -> s ≠ d0 -> Zn (Zn (put st' xr (.own id (dd.put path .hole))) up) [(d0, Y3 nid rs), (xr, .own id (dd.put path d'))] s = Zn (put st' xr (.own id (dd.put path .hole))) up s := fun s h1 h2 => by
  simp only [Zn]; rw [Zi _ _ _ _ h1, Zi _ _ _ _ h2]
 refine h1.step (fun s => s = xr \/ s = d0) (M0 ++ M1) _ _ _ w' _ _ (X4 _ _ _) (X7 _ _ _) (Yj _ hd) hk (fun g hg => .inr hg) (fun i hi => q1 i (fun e => hX (e ▸ hi))) (fun s hs' => ?_) (fun s hs' => ?_) (fun s u hs' hu hsu g hg hgu => ?_) (fun _ h => .inl h) (fun s hs' i hi => ?_)
 ·simp only [not_or] at hs'
  exact ⟨hst s hs'.1 hs'.2, Zm _ _ _ _ hs'.2, by simp [hs'.1, hs'.2]⟩
 ·by_cases hsx : s = xr
  ·subst hsx
   rw [if_pos rfl, Zm _ _ _ _ (Ne.symm hne)]
   simp only [Zn, Zo, SR]
   rw [q1 id hidn]
   refine ⟨hfin, ?_, fun g hg => ?_⟩
   ·have hd2 : ∀ g ∈ Lo, g ∉ A /\ g ∉ B := fun g hg => by
     have := hL0 g hg
     rw [eL] at this
     simp only [List.mem_append, not_or] at this
     exact ⟨this.1, this.2.2⟩
    simp only [List.nodup_append, List.mem_append] at hndx ⊢
    grind
   ·simp only [List.mem_append] at hg
    rcases hg with hg | hg | hg
    ·have : g ∈ L' s := by rw [eL]; simp [hg]
     exact ⟨Nat.lt_of_lt_of_le (h1.rep.bound s g this).1 hk.size, .inl ⟨s, .inl rfl, this⟩⟩
    ·exact ⟨(hL g u5).1, .inr (hL g u5).2⟩
    ·have : g ∈ L' s := by rw [eL]; simp [hg]
     exact ⟨Nat.lt_of_lt_of_le (h1.rep.bound s g this).1 hk.size, .inl ⟨s, .inl rfl, this⟩⟩
  ·have hs0 : s = d0 := hs'.resolve_left hsx
   subst hs0
   rw [if_neg hsx, if_pos rfl, Z9 _ _ _ (h1.rep.size _ hd)]
   simp only [Zn]
   rw [Zi _ _ _ _ hsx, Zo]
   exact ⟨q2, ndr, fun g hg => ⟨(hL g u5).1, .inr (hL g u5).2⟩⟩
 ·have hLrB : ∀ t, t = xr -> ∀ g ∈ A ++ (Lo ++ B), g ∉ Lr := fun t et g hg hgr => by
   simp only [List.mem_append] at hg
   have old : g ∈ L' xr -> False := fun hx => by
    rcases (hL g (by simp [hgr])).2 with h | h
    ·exact h1.disj xr g hx h
    ·have := (h1.rep.bound xr g hx).1; omega
   rcases hg with hg | hg | hg
   ·exact old (by rw [eL]; simp [hg])
   ·exact dro g hgr g hg rfl
   ·exact old (by rw [eL]; simp [hg])
  by_cases hsx : s = xr
  ·have hu0 : u ≠ xr := fun e => hsu (hsx.trans e.symm)
   have hu' : u = d0 := hu.resolve_left hu0
   rw [if_neg hu0, if_pos hu'] at hgu
   rw [if_pos hsx] at hg
   exact hLrB s hsx g hg hgu
  ·have hs0 : s = d0 := hs'.resolve_left hsx
   rw [if_neg hsx, if_pos hs0] at hg
   have hux : u = xr := hu.resolve_right fun e => hsu (hs0.trans e.symm)
   rw [if_pos hux] at hgu
   exact hLrB u hux g hgu hg
 ·by_cases hsx : s = xr
  ·subst hsx
   simp only [Zn, Zo, AV.ids, List.mem_singleton] at hi
   exact .inl (by rw [hi]; exact hidX)
  ·have hs0 : s = d0 := hs'.resolve_left hsx
   subst hs0
   simp only [Zn] at hi
   rw [Zi _ _ _ _ hsx, Zo] at hi
   exact .inr (q3 i hi)
end
end Go.Pv
namespace Go.Proofs.YtmgmpnhlehonmaaGreat
set_option maxHeartbeats 20000000
open Go.Pv
open Go.ChangeShapes Go.WideShapes Go.ChangeAt Go.RowKit
attribute [local irreducible] Za WpA Zg Xf Zz Z6 Zd
def Z1 (l : List Int) : Nat -> Int
 | 0 => 0
 | j + 1 => (Int.gcd (Z1 l j) (l.getD j 0) : Int)
def Vg (l : List Int) : Nat -> List Int
 | 0 => []
 | j + 1 => Vg l j ++ [Z1 l (j + 1)]
theorem Yq (l : List Int) : ∀ j, (Vg l j).length = j
 | 0 => rfl
 | j + 1 => by simp [Vg, Yq l j]
theorem Zer {l : List Int} (h : ∀ i, 0 <= l.getD i 0 /\ l.getD i 0 <= 1000000000) : ∀ j, 0 <= Z1 l j /\ Z1 l j <= 1000000000
 | 0 => by simp [Z1]
 | j + 1 => by
  have h1 := Zer h j
  have h2 := h j
  simp only [Z1]
  refine ⟨by omega, ?_⟩
  by_cases h0 : l.getD j 0 = 0
  ·rw [h0, Int.gcd_zero_right]; omega
  ·have := Int.gcd_le_right (a := Z1 l j) (show 0 < l.getD j 0 by omega)
   omega
def Qm (l : List Int) : Prop := ∀ i, i < l.length -> 0 < i -> l.getD (i - 1) 0 < l.getD i 0
instance decStrict (l : List Int) : Decidable (Qm l) := by unfold Qm; infer_instance
def Hs (l : List Int) : Prop := (∀ i, i < l.length -> 0 < i -> Z1 l (i + 1) < Z1 l i) /\ Z1 l l.length = 1
instance decFalls (l : List Int) : Decidable (Hs l) := by unfold Hs; infer_instance
def Vq (l : List Int) : Prop := 0 < l.length /\ (1 <= l.getD 0 0 /\ l.getD 0 0 <= 64) /\ Qm l /\ Yz l 1 2000 /\ Hs l
instance decIsBr (l : List Int) : Decidable (Vq l) := by unfold Vq; infer_instance
theorem Zlz (l : List Int) : ∀ j i, i < j -> (Vg l j).getD i 0 = Z1 l (i + 1)
 | j + 1, i, h => by
  have hl := Yq l j
  simp only [Vg, List.getD_eq_getElem?_getD]
  by_cases hi : i < j
  ·rw [List.getElem?_append_left j2, <- List.getD_eq_getElem?_getD, Zlz l j i hi]
  ·obtain rfl : i = j := by omega
   rw [List.getElem?_append_right j2, hl]
   simp
theorem Wk {l : List Int} (h0 : 0 < l.getD 0 0) : ∀ j, 0 < Z1 l (j + 1)
 | 0 => by
  simp only [Z1, Int.gcd_zero_left]
  omega
 | j + 1 => by
  have := Int.gcd_pos_of_ne_zero_left (l.getD (j + 1) 0) (show Z1 l (j + 1) ≠ 0 by have := Wk h0 j; omega)
  rw [Z1]
  omega
theorem Qn {l : List Int} (h0 : 0 < l.getD 0 0) (j : Nat) : Z1 l (j + 1 + 1) <= Z1 l (j + 1) := by
 have := Int.gcd_le_left (b := l.getD (j + 1) 0) (Wk h0 j)
 rw [Z1]
 omega
theorem Zcp (l : List Int) : Vq l ↔ 0 < l.length /\ (1 <= l.getD 0 0 /\ l.getD 0 0 <= 64) /\ (∀ i, i < l.length -> 0 < i -> (l.getD (i - 1) 0 + 1 <= l.getD i 0 /\ l.getD i 0 <= 2000) /\ Z1 l (i + 1) ≠ Z1 l i) /\ Z1 l l.length = 1 := by
 constructor
 ·rintro ⟨h1, h2, h3, h4, h5, h6⟩
  refine ⟨h1, h2, fun i hi h0 => ⟨⟨?_, (h4 i hi).2⟩, ?_⟩, h6⟩
  ·have := h3 i hi h0; omega
  ·have := h5 i hi h0; omega
 ·rintro ⟨h1, h2, h3, h4⟩
  have hw : ∀ i, i < l.length -> 1 <= l.getD i 0 /\ l.getD i 0 <= 2000 := by
   intro i
   induction i with
   | zero => intro _; omega
   | succ i ih =>
    intro hi
    have := ih j2
    have h5 := (h3 (i + 1) hi j2).1
    simp only [Nat.add_sub_cancel] at h5
    omega
  refine ⟨h1, h2, fun i hi h0 => ?_, hw, fun i hi h0 => ?_, h4⟩
  ·have := (h3 i hi h0).1; omega
  ·have h5 := (h3 i hi h0).2
   obtain ⟨k, rfl⟩ : ∃ k, i = k + 1 := ⟨i - 1, by omega⟩
   have := Qn (l := l) j2 k
   omega
attribute [local irreducible] decStrict decFalls decIsBr decWithin Qm Hs Vq Yz
instance fnOk227 : Zs Tryz.prog 227 := ⟨_, Tryz.func227, rfl, by decide⟩
theorem Zp6 (l : List Int) (hl : l.length <= 1000000000) : Zj Tryz.prog 227 [.sh (.agg [.sl false 1 (Ze l)])] [rB (decide (Vq l))] [] := by
 have hiff := Zcp l
 refine cA_ _ Tryz.func227 rfl Tryz.ntmps227 sO_ ?_
 by_cases h0 : 0 < l.length
 ·by_cases h1 : 1 <= l.getD 0 0 /\ l.getD 0 0 <= 64
  ·have hd1 : l.getD 0 0 = Z1 l 1 := by
    simp only [Z1, Int.gcd_zero_left]
    omega
   have hge := Wk (l := l) j2
   have hle : ∀ j, Z1 l (j + 1) <= 64 := by
    intro j
    induction j with
    | zero => show Z1 l 1 <= 64; omega
    | succ j ih =>
     have := Qn (l := l) j2 j
     omega
   repeat' (first | (refine w2_ ?_ ?_ <;> intro _) | refine kM_ (Z7 _ _ _) ?_ | (guard_target =~ IsG; first | refine psA ?_ | (guard_target =~ Z3; first | refine Za.doit rfl rfl (sC_ (Z7 _ _ _) mA8 rD8 rfl) ?_)) | refine a1_ ?_|fail)
   all_goals try (exfalso; omega)
   all_goals try (exact absurd h1 ‹_›)
   refine WpA.loop_slots (ι := Nat) (fun j => [(3, vL l), (4, vI (Z1 l (j + 1))), (5, vI ((j : Int) + 1))]) (fun j => j + 1 <= l.length /\ (1 <= l.getD j 0 /\ l.getD j 0 <= 2000) /\ ∀ i, i < j + 1 -> 0 < i -> (l.getD (i - 1) 0 + 1 <= l.getD i 0 /\ l.getD i 0 <= 2000) /\ Z1 l (i + 1) ≠ Z1 l i) (fun j => l.length - j) 0 ⟨by omega, by omega, fun i h1 h2 => absurd h1 j2⟩ ⟨rfl, Zb hd1, rfl, trivial⟩ ?_
   intro j s nx hj
   have e1 : (j + 1) * 1 = j + 1 := by omega
   have e2 : ((j : Int) + 1 - 1).toNat * 1 = j := by omega
   have hj2 := hj.2.1
   have hgj := hge j
   have hlj := hle j
   by_cases hlt : j + 1 < l.length
   ·rw [<- e2] at hj2
    repeat' (first | (refine w2_ ?_ ?_ <;> intro _) | refine kM_ (Z7 _ _ _) ?_ | refine kM_ (Zqx (Z1 l (j + 1)) (l.getD ((j + 1) * 1) 0) j2 j2) ?_ | (guard_target =~ IsG; first | refine psA ?_ | (guard_target =~ Z3; first | refine Za.doit rfl rfl (sC_ (Z7 _ _ _) mA8 rD8 rfl) ?_ | refine Za.doit rfl rfl (sC_ (Zqx (Z1 l (j + 1)) (l.getD ((j + 1) * 1) 0) j2 j2) mA8 rD8 rfl) ?_)) | refine a1_ ?_|fail)
    all_goals try (exfalso; omega)
    case refine_1.refine_1 h3 h4 =>
     rw [e1, e2] at h4
     have : ¬ Vq l := fun hb => by
      have := ((hiff.1 hb).2.2.1 (j + 1) hlt j2).1
      simp only [Nat.add_sub_cancel] at this
      exact h4 this
     simp [this]
    case refine_1.refine_2.refine_1 h3 h4 h5 =>
     rw [e1] at h5
     have : ¬ Vq l := fun hb => ((hiff.1 hb).2.2.1 (j + 1) hlt j2).2 h5
     simp [this]
    case refine_1.refine_2.refine_2 h3 h4 h5 =>
     rw [e1, e2] at h4
     rw [e1] at h5
     rw [e2] at hj2
     refine ⟨j + 1, ⟨by omega, by omega, fun i hi h0' => ?_⟩, ⟨rfl, Zb (by rw [e1]; rfl), Zb j2, trivial⟩, by omega⟩
     by_cases e : i = j + 1
     ·subst e; simp only [Nat.add_sub_cancel]; exact ⟨h4, h5⟩
     ·exact hj.2.2 i j2 h0'
   ·have hl1 : j + 1 = l.length := by omega
    have hb : Vq l ↔ Z1 l (j + 1) = 1 := by
     rw [hiff, hl1]
     exact ⟨fun q => q.2.2.2, fun q => ⟨h0, h1, fun i hi h0' => hj.2.2 i j2 h0', q⟩⟩
    repeat' (first | (refine w2_ ?_ ?_ <;> intro _) | refine a1_ ?_|fail)
    all_goals try (exfalso; omega)
    simp [hb]
  ·have hn : ¬ Vq l := fun hb => h1 (hiff.1 hb).2.1
   repeat' (first | (refine w2_ ?_ ?_ <;> intro _) | refine kM_ (Z7 _ _ _) ?_ | (guard_target =~ IsG; first | refine psA ?_ | (guard_target =~ Z3; first | refine Za.doit rfl rfl (sC_ (Z7 _ _ _) mA8 rD8 rfl) ?_)) | refine a1_ ?_|fail)
   all_goals try (exfalso; omega)
   all_goals try (exact absurd ‹_› h1)
   all_goals simp [hn]
 ·have hn : ¬ Vq l := fun hb => h0 (hiff.1 hb).1
  repeat' (first | (refine w2_ ?_ ?_ <;> intro _) | refine a1_ ?_|fail)
  all_goals try (exfalso; omega)
  all_goals simp [hn]
end Go.Proofs.YtmgmpnhlehonmaaGreat
namespace Go.Proofs.YtmgmpnhlehonmaaGreat
set_option maxHeartbeats 20000000
open Go.Pv
open Go.ChangeShapes Go.WideShapes Go.ChangeAt Go.RowKit
attribute [local irreducible] Za WpA Zg Xf Zz Z6 Zd
abbrev vAb (x : Int) : AV := .c (.lit (.int .i64 x))
abbrev Zp7 (l : List Int) : Arg := .sh (.agg [.sl false 1 (Ze l)])
def stp : Nat -> Int -> Int -> List (List Int)
 | 0, _, _ => []
 | f + 1, a, b => if 0 < b then [a / b, b] :: stp f b (a % b) else []
theorem Zof (f : Nat) (a : Int) : stp f a 0 = [] := by cases f <;> simp [stp]
theorem Zcq : ∀ (f : Nat) (a b : Int), (stp f a b).length <= f
 | 0, _, _ => Nat.le_refl _
 | f + 1, a, b => by
  have := Zcq f b (a % b)
  rw [stp]; split <;> simp <;> omega
theorem Zga : ∀ (f : Nat) (a b : Int), 0 <= a -> 0 <= b -> ∀ s ∈ stp f a b, s.length = 2 /\ (0 <= s.getD 0 0 /\ s.getD 0 0 <= a + b) /\ 0 < s.getD 1 0 /\ s.getD 1 0 <= a + b
 | 0, _, _, _, _, s, h => by simp [stp] at h
 | f + 1, a, b, ha, hb, s, h => by
  rw [stp] at h
  split at h
  ·rename_i h0
   have hm := Int.emod_nonneg a (show b ≠ 0 by omega)
   have hl := Int.emod_lt_of_pos a h0
   have hma : a % b <= a := by
    have k1 := Int.mul_nonneg hb (Int.ediv_nonneg ha hb)
    have k2 := Int.mul_ediv_add_emod a b
    omega
   rcases List.mem_cons.1 h with rfl | h
   ·have h1 := Int.ediv_nonneg ha hb
    have h2 := Int.ediv_le_self b ha
    exact ⟨rfl, ⟨h1, show a / b <= a + b by omega⟩, h0, show b <= a + b by omega⟩
   ·obtain ⟨k1, k2, k3⟩ := Zga f b (a % b) hb hm s h
    exact ⟨k1, ⟨k2.1, by omega⟩, k3.1, by omega⟩
  ·simp at h
def Yi (R : List (List Int)) : List Int := R.flatMap fun s => List.replicate (s.getD 0 0).toNat (s.getD 1 0)
theorem Zsy (R : List (List Int)) (s : List Int) : Yi (R ++ [s]) = Yi R ++ List.replicate (s.getD 0 0).toNat (s.getD 1 0) := by simp [Yi]
theorem Zsz {R : List (List Int)} {j : Nat} (h : j < R.length) : Yi (R.take (j + 1)) = Yi (R.take j) ++ List.replicate ((R.getD j []).getD 0 0).toNat ((R.getD j []).getD 1 0) := by
 rw [List.take_add_one, List.getElem?_eq_getElem h]
 simp only [Option.toList_some, Zsy]
 simp [List.getD, h]
theorem Zyx {R : List (List Int)} {B : Nat} (h : ∀ s ∈ R, s.getD 0 0 <= B) : (Yi R).length <= R.length * B := by
 induction R with
 | nil => simp [Yi]
 | cons s R ih =>
  have h1 := h s (by simp)
  have h2 := ih fun x hx => h x x4
  unfold Yi at h2 ⊢
  rw [List.flatMap_cons, List.length_append, List.length_replicate, List.length_cons, Nat.add_mul]
  omega
structure Tms (l : List Int) : Prop where
 len : 1 <= l.length /\ l.length <= 100
 bnd : ∀ i, 0 <= l.getD i 0 /\ l.getD i 0 <= 2000
 asc : ∀ i, i + 1 < l.length -> l.getD i 0 <= l.getD (i + 1) 0
 pos : 0 < l.getD 0 0
def Qq (l : List Int) (j : Nat) : Int := l.getD (j + 1) 0 - (if j = 0 then 0 else l.getD j 0)
def Zah (l : List Int) : Nat -> List Int
 | 0 => []
 | j + 1 => Zah l j ++ Yi (stp ((Vg l l.length).getD j 0).toNat (Qq l j) ((Vg l l.length).getD j 0))
def Zcr (l : List Int) : List Int := if l.length = 1 then [1] else Zah l (l.length - 1)
theorem Ht {l : List Int} (h : Tms l) (j : Nat) : 0 <= (Vg l l.length).getD j 0 /\ (Vg l l.length).getD j 0 <= 2000 := by
 have key : ∀ n, n <= l.length -> ∀ j, 0 <= (Vg l n).getD j 0 /\ (Vg l n).getD j 0 <= 2000 := by
  intro n
  induction n with
  | zero => intro _ j; simp [Vg]
  | succ n ih =>
   intro hn j
   rw [Vg]
   rcases Nat.lt_trichotomy j n with hj | hj | hj
   ·rw [List.getD_eq_getElem?_getD, List.getElem?_append_left (by rw [Yq]; exact hj), <- List.getD_eq_getElem?_getD]
    exact ih j2 j
   ·subst hj
    rw [List.getD_eq_getElem?_getD, List.getElem?_append_right (by rw [Yq]; exact Nat.le_refl _), Yq, Nat.sub_self]
    simp only [List.getElem?_cons_zero, Option.getD_some, Z1]
    refine ⟨by omega, ?_⟩
    have h2 := h.bnd j
    by_cases h0 : l.getD j 0 = 0
    ·have hj0 : 0 < j := by
      rcases Nat.eq_zero_or_pos j with e | e
      ·subst e; have := h.pos; omega
      ·exact e
     have hpos : ∀ i, i < l.length -> 0 < l.getD i 0 := by
      intro i
      induction i with
      | zero => intro _; exact h.pos
      | succ i ih2 => intro hi; have := h.asc i hi; have := ih2 j2; omega
     have := hpos j j2; omega
    ·have := Int.gcd_le_right (a := Z1 l j) (show 0 < l.getD j 0 by omega)
     omega
   ·rw [List.getD_eq_getElem?_getD, List.getElem?_eq_none (by simp [Yq]; omega)]
    simp
 exact key _ (Nat.le_refl _) j
theorem Zcs {l : List Int} (h : Tms l) {j : Nat} (hj : j + 1 < l.length) : 0 <= Qq l j /\ Qq l j <= 2000 := by
 unfold Qq
 have h1 := h.bnd (j + 1)
 have h2 := h.bnd j
 have h3 := h.asc j hj
 split <;> omega
theorem Zog {l : List Int} (h : Tms l) : ∀ j, j + 1 <= l.length -> (Zah l j).length <= 8000000 * j
 | 0, _ => by simp [Zah]
 | j + 1, hj => by
  have ih := Zog h j j2
  have hd := Ht h j
  have hk := Zcs h (j := j) j2
  rw [Zah, List.length_append]
  have h3 := Zyx (R := stp ((Vg l l.length).getD j 0).toNat (Qq l j) ((Vg l l.length).getD j 0)) (B := 4000) fun s hs => by
   have := (Zga _ _ _ hk.1 hd.1 s hs).2.1; omega
  have h4 := Zcq ((Vg l l.length).getD j 0).toNat (Qq l j) ((Vg l l.length).getD j 0)
  have h5 : (stp ((Vg l l.length).getD j 0).toNat (Qq l j) ((Vg l l.length).getD j 0)).length * 4000 <= 2000 * 4000 := Nat.mul_le_mul_right _ j2
  omega
theorem Zwg {R : List (List Int)} {x : Int} (h : x ∈ Yi R) : ∃ s ∈ R, x = s.getD 1 0 := by
 unfold Yi at h
 rw [List.mem_flatMap] at h
 obtain ⟨s, hs, hx⟩ := h
 exact ⟨s, hs, (List.mem_replicate.1 hx).2⟩
theorem Zoh {l : List Int} (h : Tms l) : ∀ j, j + 1 <= l.length -> ∀ x ∈ Zah l j, 0 <= x /\ x <= 4000
 | 0, _, x, hx => by simp [Zah] at hx
 | j + 1, hj, x, hx => by
  rw [Zah] at hx
  rcases List.mem_append.1 hx with hx | hx
  ·exact Zoh h j j2 x hx
  ·obtain ⟨s, hs, rfl⟩ := Zwg hx
   have hd := Ht h j
   have hk := Zcs h (j := j) j2
   have := (Zga _ _ _ hk.1 hd.1 s hs).2.2
   omega
theorem Zyy {l : List Int} (h : Tms l) : (Zcr l).length <= 800000000 /\ ∀ i, 0 <= (Zcr l).getD i 0 /\ (Zcr l).getD i 0 <= 4000 := by
 have key : (Zcr l).length <= 800000000 /\ ∀ x ∈ Zcr l, 0 <= x /\ x <= 4000 := by
  unfold Zcr
  split
  ·simp
  ·have hl := h.len
   have := Zog h (l.length - 1) j2
   exact ⟨by omega, Zoh h _ j2⟩
 refine ⟨key.1, fun i => ?_⟩
 by_cases hi : i < (Zcr l).length
 ·rw [List.getD_eq_getElem?_getD, List.getElem?_eq_getElem hi]; exact key.2 _ (List.getElem_mem hi)
 ·rw [List.getD_eq_getElem?_getD, List.getElem?_eq_none j2]; simp
instance fnOk224 : Zs Tryz.prog 224 := ⟨_, Tryz.func224, rfl, by decide⟩
instance fnOk225 : Zs Tryz.prog 225 := ⟨_, Tryz.func225, rfl, by decide⟩
instance fnOk212 : Zs Tryz.prog 212 := ⟨_, Tryz.func212, rfl, by decide⟩
theorem Zij (a b : Int) (ha : 0 <= a /\ a <= 1000000) (hb : 0 <= b /\ b <= 1000000) : Zj Tryz.prog 225 [aI a, aI b] [rLL (stp b.toNat a b)] [] := by
 generalize hT : stp b.toNat a b = T
 refine cA_ _ Tryz.func225 rfl Tryz.ntmps225 sO_ ?_
 repeat' (first | (refine w2_ ?_ ?_ <;> intro _) | refine a1_ ?_|fail)
 refine WpA.loop_slots (ι := List (List Int) × Int × Int × Nat × Nat) (fun q => [(0, vAb q.2.1), (1, vAb q.2.2.1), (5, .own q.2.2.2.2 (.sl true 1 (LL q.1)))]) (fun q => (0 <= q.2.1 /\ q.2.1 <= 1000000) /\ (0 <= q.2.2.1 /\ q.2.2.1 <= 1000000) /\ q.2.2.1.toNat <= q.2.2.2.1 /\ q.1.length + q.2.2.2.1 <= 2000000 /\ q.1 ++ stp q.2.2.2.1 q.2.1 q.2.2.1 = T) (fun q => q.2.2.1.toNat) ([], a, b, b.toNat, _) ⟨ha, hb, Nat.le_refl _, by simp; omega, by simpa using hT⟩ ⟨rfl, rfl, xR_, trivial⟩ ?_
 rintro ⟨L, x, y, f, i5⟩ s nx ⟨hx, hy, hf, hL, hT2⟩
 simp only at hx hy hf hL hT2
 dsimp only
 clear hT
 by_cases h0 : 0 < y
 ·have hm := Int.emod_nonneg x (show y ≠ 0 by omega)
  have hl := Int.emod_lt_of_pos x h0
  obtain ⟨f', rfl⟩ : ∃ f', f = f' + 1 := ⟨f - 1, by omega⟩
  rw [stp, if_pos h0] at hT2
  repeat' (first | (refine w2_ ?_ ?_ <;> intro _) | refine a1_ ?_|fail)
  all_goals try (exfalso; omega)
  all_goals exact ⟨(L ++ [[x / y, y]], y, x % y, f', _), ⟨hy, ⟨hm, by simp only; omega⟩, by simp only; omega, by simp; omega, by rw [<- hT2]; simp⟩, ⟨rfl, rfl, by exact V1 rfl, trivial⟩, by simp only; omega⟩
 ·have e : y = 0 := by omega
  subst e
  rw [Zof, List.append_nil] at hT2
  subst hT2
  repeat' (first | (refine w2_ ?_ ?_ <;> intro _) | refine a1_ ?_|fail)
  all_goals first | rfl | (exfalso; omega)
theorem Wl {l : List Int} (h : 0 <= l.getD 0 0) : Z1 l 1 = l.getD 0 0 := by
 simp only [Z1]
 have := Int.gcd_zero_left (a := l.getD 0 0)
 omega
theorem Zp8 (l : List Int) (j : Nat) : (Vg l (j + 1)).getD j 0 = Z1 l (j + 1) := by
 rw [Vg, List.getD_eq_getElem?_getD, List.getElem?_append_right (by rw [Yq]; exact Nat.le_refl _), Yq, Nat.sub_self]
 rfl
theorem Zax (l : List Int) (h : Tms l) : Zj Tryz.prog 224 [Zp7 l] [rL (Vg l l.length)] [] := by
 obtain ⟨hl1, hl2⟩ := h.len
 have h0 := h.pos
 have hb := h.bnd
 have hdt := Zer (l := l) (fun i => by have := hb i; omega)
 have e1 : [l.getD (0 * 1) 0] = Vg l 1 := by
  rw [Vg, Vg, Wl j2]; rfl
 refine cA_ _ Tryz.func224 rfl Tryz.ntmps224 sO_ ?_
 repeat' (first | (refine w2_ ?_ ?_ <;> intro _) | refine a1_ ?_|fail)
 all_goals try (exfalso; omega)
 refine WpA.loop_slots2 (fun j i3 => [(1, .own 1 (.pt true [.sl false 1 (Ze l)])), (3, .own i3 (.sl true 1 (Ze (Vg l (j + 1))))), (4, vAb ((j + 1 : Nat) : Int))]) (fun j => j + 1 <= l.length) (fun j => l.length - j) 0 _ j2 ⟨rfl, by exact Zq e1, rfl, trivial⟩ ?_
 intro j i3 s nx hj
 have hdl := Yq l (j + 1)
 by_cases hlt : j + 1 < l.length
 ·have ej : ((((j + 1 : Nat) : Int) - 1).toNat) * 1 = j := by omega
  have hla := Zp8 l j
  rw [<- ej] at hla
  rw [show (Vg l (((((j + 1 : Nat) : Int) - 1).toNat) * 1 + 1)) = Vg l (j + 1) by rw [ej]] at hla
  have hd1 := hdt (((((j + 1 : Nat) : Int) - 1).toNat) * 1 + 1)
  have hb1 := hb ((j + 1) * 1)
  rw [<- hla] at hd1
  have hG := Zqx ((Vg l (j + 1)).getD (((((j + 1 : Nat) : Int) - 1).toNat) * 1) 0) (l.getD ((j + 1) * 1) 0) j2 j2
  have e2 : Vg l (j + 1) ++ [(((Vg l (j + 1)).getD (((((j + 1 : Nat) : Int) - 1).toNat) * 1) 0).gcd (l.getD ((j + 1) * 1) 0) : Int)] = Vg l (j + 1 + 1) := by
   rw [hla, ej, Nat.mul_one]; rfl
  clear hdt e1
  repeat' (first | (refine w2_ ?_ ?_ <;> intro _) | refine kM_ hG ?_ | refine a1_ ?_|fail)
  all_goals try (exfalso; omega)
  all_goals exact ⟨j + 1, by omega, ⟨_, rfl, by exact Zq e2, Zb j2, trivial⟩, by omega⟩
 ·have ej : j + 1 = l.length := by omega
  rw [ej]
  clear hdt e1
  repeat' (first | (refine w2_ ?_ ?_ <;> intro _) | refine a1_ ?_|fail)
  all_goals first | rfl | (exfalso; omega)
def J2 (l : List Int) : Nat -> List (List Int)
 | 0 => []
 | j + 1 => J2 l j ++ stp ((Vg l l.length).getD j 0).toNat (Qq l j) ((Vg l l.length).getD j 0)
theorem Zd7 {l : List Int} (h : Tms l) : ∀ j, (J2 l j).length <= 2000 * j
 | 0 => by simp [J2]
 | j + 1 => by
  have ih := Zd7 h j
  have hd := Ht h j
  have h4 := Zcq ((Vg l l.length).getD j 0).toNat (Qq l j) ((Vg l l.length).getD j 0)
  rw [J2, List.length_append]; omega
theorem Zkk {l : List Int} (h : Tms l) : ∀ j, j + 1 <= l.length -> ∀ s ∈ J2 l j, s.length = 2 /\ (0 <= s.getD 0 0 /\ s.getD 0 0 <= 4000) /\ 0 < s.getD 1 0 /\ s.getD 1 0 <= 4000
 | 0, _, s, hs => by simp [J2] at hs
 | j + 1, hj, s, hs => by
  rw [J2] at hs
  rcases List.mem_append.1 hs with hs | hs
  ·exact Zkk h j j2 s hs
  ·have hd := Ht h j
   have hk := Zcs h (j := j) j2
   obtain ⟨q1, q2, q3⟩ := Zga _ _ _ hk.1 hd.1 s hs
   exact ⟨q1, by omega, by omega⟩
theorem Zkl {id : Nat} {A B C : List (List Int)} (e : A ++ B = C) : AV.own id (.sl true 1 (LL A ++ LL B)) = AV.own id (.sl true 1 (LL C)) := by rw [<- e]; simp
theorem Zs0 (l : List Int) (h : Tms l) : Zj Tryz.prog 212 [Zp7 l] [rLL (J2 l (l.length - 1))] [] := by
 obtain ⟨hl1, hl2⟩ := h.len
 have hD := Zax l h
 have hdl := Yq l l.length
 have hdb := Ht h
 have hsl := Zd7 h
 have hkb : ∀ j, j + 1 < l.length -> 0 <= Qq l j /\ Qq l j <= 2000 := fun j hj => Zcs h hj
 have hstep : ∀ j, J2 l (j + 1) = J2 l j ++ stp ((Vg l l.length).getD j 0).toNat (Qq l j) ((Vg l l.length).getD j 0) := fun j => rfl
 generalize Vg l l.length = dv at *
 refine cA_ _ Tryz.func212 rfl Tryz.ntmps212 sO_ ?_
 repeat' (first | (refine w2_ ?_ ?_ <;> intro _) | (guard_target =~ Zh; first | refine Za.cons (sC_ (hD) (.sh .nil) (.shAgg rfl gA_ .nil) rfl) ?_) | refine a1_ ?_|fail)
 all_goals try (exfalso; omega)
 refine WpA.loop_ids2 (fun j i3 i4 => [(1, .own 1 (.pt true [.sl false 1 (Ze l)])), (3, .own i3 (.sl true 1 (Ze dv))), (4, .own i4 (.sl true 1 (LL (J2 l j)))), (5, vAb ((j + 1 : Nat) : Int))]) (fun j => j + 1 <= l.length) (fun j => l.length - j) 0 _ _ j2 ⟨rfl, xR_, xR_, rfl, trivial⟩ ?_
 intro j i3 i4 s nx hj
 have hsj := hsl j
 by_cases hlt : j + 1 < l.length
 ·have hk := hkb j hlt
  have hdj := hdb (((((j + 1 : Nat) : Int) - 1).toNat) * 1)
  have ej : ((((j + 1 : Nat) : Int) - 1).toNat) * 1 = j := by omega
  have hst := hstep j
  rw [show dv.getD j 0 = dv.getD (((((j + 1 : Nat) : Int) - 1).toNat) * 1) 0 by rw [ej]] at hst
  have hb1 := h.bnd ((j + 1) * 1)
  have hb2 := h.bnd (((((j + 1 : Nat) : Int) - 1).toNat) * 1)
  by_cases hj0 : j = 0
  ·subst hj0
   have e2 : Qq l 0 = l.getD ((0 + 1) * 1) 0 := by unfold Qq; rw [if_pos rfl]; simp
   rw [e2] at hk hst
   have hR := Zij (l.getD ((0 + 1) * 1) 0) (dv.getD (((((0 + 1 : Nat) : Int) - 1).toNat) * 1) 0) j2 j2
   have hRl := Zcq (dv.getD (((((0 + 1 : Nat) : Int) - 1).toNat) * 1) 0).toNat (l.getD ((0 + 1) * 1) 0) (dv.getD (((((0 + 1 : Nat) : Int) - 1).toNat) * 1) 0)
   clear hD hdb hsl hkb hstep
   generalize stp (dv.getD (((((0 + 1 : Nat) : Int) - 1).toNat) * 1) 0).toNat (l.getD ((0 + 1) * 1) 0) (dv.getD (((((0 + 1 : Nat) : Int) - 1).toNat) * 1) 0) = R at *
   repeat' (first | (refine w2_ ?_ ?_ <;> intro _) | refine kM_ hR ?_ | (guard_target =~ IsN; first | refine Za.cons (Xl (.als rfl rfl) (.own rfl) u4 rfl) ?_) | refine a1_ ?_|fail)
   all_goals try (exfalso; omega)
   all_goals exact ⟨0 + 1, by omega, ⟨_, _, rfl, rfl, by exact Zkl hst.symm, Zb j2, trivial⟩, by omega⟩
  ·have e2 : Qq l j = l.getD ((j + 1) * 1) 0 - l.getD (((((j + 1 : Nat) : Int) - 1).toNat) * 1) 0 := by unfold Qq; rw [if_neg hj0, ej, Nat.mul_one]
   rw [e2] at hk hst
   have hR := Zij (l.getD ((j + 1) * 1) 0 - l.getD (((((j + 1 : Nat) : Int) - 1).toNat) * 1) 0) (dv.getD (((((j + 1 : Nat) : Int) - 1).toNat) * 1) 0) j2 j2
   have hRl := Zcq (dv.getD (((((j + 1 : Nat) : Int) - 1).toNat) * 1) 0).toNat (l.getD ((j + 1) * 1) 0 - l.getD (((((j + 1 : Nat) : Int) - 1).toNat) * 1) 0) (dv.getD (((((j + 1 : Nat) : Int) - 1).toNat) * 1) 0)
   clear hD hdb hsl hkb hstep
   generalize stp (dv.getD (((((j + 1 : Nat) : Int) - 1).toNat) * 1) 0).toNat (l.getD ((j + 1) * 1) 0 - l.getD (((((j + 1 : Nat) : Int) - 1).toNat) * 1) 0) (dv.getD (((((j + 1 : Nat) : Int) - 1).toNat) * 1) 0) = R at *
   repeat' (first | (refine w2_ ?_ ?_ <;> intro _) | refine kM_ hR ?_ | (guard_target =~ IsN; first | refine Za.cons (Xl (.als rfl rfl) (.own rfl) u4 rfl) ?_) | refine a1_ ?_|fail)
   all_goals try (exfalso; omega)
   all_goals exact ⟨j + 1, by omega, ⟨_, _, rfl, rfl, by exact Zkl hst.symm, Zb j2, trivial⟩, by omega⟩
 ·have ej : j = l.length - 1 := by omega
  subst ej
  clear hD hdb hsl hkb hstep
  repeat' (first | (refine w2_ ?_ ?_ <;> intro _) | refine a1_ ?_|fail)
  all_goals first | rfl | (exfalso; omega)
def hf2 (m : Int) : Int := m * (m - 1) / 2
theorem Zkm (l : List Int) : ∀ j, Zah l j = Yi (J2 l j)
 | 0 => rfl
 | j + 1 => by
  rw [Zah, J2, Zkm l j]
  simp [Yi]
instance fnOk226 : Zs Tryz.prog 226 := ⟨_, Tryz.func226, rfl, by decide⟩
instance fnOk229 : Zs Tryz.prog 229 := ⟨_, Tryz.func229, rfl, by decide⟩
instance fnOk206 : Zs Tryz.prog 206 := ⟨_, Tryz.func206, rfl, by decide⟩
instance fnOk228 : Zs Tryz.prog 228 := ⟨_, Tryz.func228, rfl, by decide⟩
instance fnOk214 : Zs Tryz.prog 214 := ⟨_, Tryz.func214, rfl, by decide⟩
attribute [local irreducible] decStrict decFalls decIsBr decWithin Qm Hs Vq Yz
theorem Zwh {a b : List Int} (h : a.length = b.length) (e : ∀ i, i < a.length -> a.getD i 0 = b.getD i 0) : a = b := Q8 h e
theorem Zyz (l m : List Int) (hl : l.length <= 1000000000) (hm : m.length <= 1000000000) : Zj Tryz.prog 206 [aL l, aL m] [rB (decide (l = m))] [] := by
 by_cases hlen : l.length = m.length
 ·refine cA_ _ Tryz.func206 rfl Tryz.ntmps206 sO_ ?_
  repeat' (first | (refine w2_ ?_ ?_ <;> intro _) | refine a1_ ?_|fail)
  all_goals try (exfalso; omega)
  refine WpA.loop_slots (ι := Nat) (fun j => [(0, .c (.sl false 1 (Ze l))), (1, .c (.sl false 1 (Ze m))), (5, vI j)]) (fun j => j <= l.length /\ ∀ k, k < j -> l.getD k 0 = m.getD k 0) (fun j => l.length - j) 0 ⟨by omega, fun k hk => by omega⟩ ⟨rfl, rfl, rfl, trivial⟩ ?_
  rintro j s nx ⟨h1, h2⟩
  by_cases hlt : j < l.length
  ·by_cases e : l.getD (j * 1) 0 = m.getD (j * 1) 0
   ·repeat' (first | (refine w2_ ?_ ?_ <;> intro _) | refine a1_ ?_|fail)
    all_goals try (exfalso; simp_all; done)
    all_goals try (exfalso; omega)
    refine ⟨j + 1, ⟨by omega, fun k hk => ?_⟩, ⟨rfl, rfl, Zb j2, trivial⟩, by omega⟩
    by_cases e2 : k = j
    ·rw [Nat.mul_one] at e; rw [e2]; exact e
    ·exact h2 k j2
   ·rw [decide_eq_false (fun h => e (by rw [h]))]
    clear h2
    repeat' (first | (refine w2_ ?_ ?_ <;> intro _) | refine a1_ ?_|fail)
    all_goals first | rfl | (exfalso; simp_all; done) | (exfalso; omega)
  ·rw [decide_eq_true (Zwh hlen fun k hk => h2 k j2)]
   clear h2
   repeat' (first | (refine w2_ ?_ ?_ <;> intro _) | refine a1_ ?_|fail)
   all_goals first | rfl | (exfalso; omega)
 ·rw [decide_eq_false (fun h => hlen (by rw [h]))]
  refine cA_ _ Tryz.func206 rfl Tryz.ntmps206 sO_ ?_
  repeat' (first | (refine w2_ ?_ ?_ <;> intro _) | refine a1_ ?_|fail)
  all_goals first | rfl | (exfalso; omega)
theorem Zwi (A B : List (List Int)) (hA : A.length <= 100000) (hB : B.length <= 100000) (ha : ∀ i, (A.getD i []).length <= 1000) (hb : ∀ i, (B.getD i []).length <= 1000) : Zj Tryz.prog 228 [aLL A, aLL B] [rB (decide (A = B))] [] := by
 refine cA_ _ Tryz.func228 rfl Tryz.ntmps228 sO_ ?_
 repeat' (first | (refine w2_ ?_ ?_ <;> intro _) | refine a1_ ?_|fail)
 case refine_1 h => simp; intro e; subst e; exact h rfl
 case refine_2 h =>
  have hab : A.length = B.length := by omega
  refine WpA.loop_slots (ι := Nat) (fun j => [(0, .c (.sl false 1 (LLs A))), (1, .c (.sl false 1 (LLs B))), (5, .c (.lit (.int .i64 (j : Int))))]) (fun j => j <= A.length /\ ∀ i, i < j -> A.getD i [] = B.getD i []) (fun j => A.length - j) 0 (by simp) ⟨rfl, rfl, rfl, trivial⟩ ?_
  intro j s nx hj
  have h1 := ha (j * 1)
  have h2 := hb (j * 1)
  repeat' (first | (refine w2_ ?_ ?_ <;> intro _) | refine kM_ (Zyz (A.getD (j * 1) []) (B.getD (j * 1) []) j2 j2) ?_ | refine a1_ ?_|fail)
  case refine_1.refine_1 h3 h4 =>
   simp
   intro e; subst e; exact h4 rfl
  case refine_1.refine_2 h3 h4 =>
   refine ⟨j + 1, ⟨by omega, fun i hi => ?_⟩, ⟨rfl, rfl, Zb j2, trivial⟩, by omega⟩
   by_cases e : i = j
   ·subst e; simpa using h4
   ·exact hj.2 i j2
  case refine_2 h3 =>
   have : A = B := Zjr hab fun i hi => hj.2 i j2
   simp [this]
def pr2 (ps : List (List Int)) : Nat -> Int
 | 0 => 1
 | j + 1 => pr2 ps j * (ps.getD j []).getD 1 0
structure Zes (ps : List (List Int)) : Prop where
 len : ps.length <= 3
 row : ∀ i, i < ps.length -> (ps.getD i []).length = 2
 v1 : ∀ i, i < ps.length -> 1 <= (ps.getD i []).getD 0 0 /\ (ps.getD i []).getD 0 0 <= 60
 v2 : ∀ i, i < ps.length -> 1 <= (ps.getD i []).getD 1 0 /\ (ps.getD i []).getD 1 0 <= 5
 pr : ∀ j, j <= ps.length -> 1 <= pr2 ps j /\ pr2 ps j <= 64
theorem Zwj (ps : List (List Int)) (h : Zes ps) : Zj Tryz.prog 226 [aLL ps] [rI (pr2 ps ps.length)] [] := by
 have hl := h.len
 refine cA_ _ Tryz.func226 rfl Tryz.ntmps226 sO_ ?_
 repeat' (first | (refine w2_ ?_ ?_ <;> intro _) | refine a1_ ?_|fail)
 all_goals try (exfalso; omega)
 refine WpA.loop_slots (ι := Nat) (fun j => [(0, .c (.sl false 1 (LLs ps))), (3, vI (pr2 ps j)), (4, vI j)]) (fun j => j <= ps.length) (fun j => ps.length - j) 0 (by simp) ⟨rfl, rfl, rfl, trivial⟩ ?_
 intro j s nx hj
 by_cases hlt : j < ps.length
 ·have h1 := h.row (j * 1) j2
  have h2 := h.v1 (j * 1) j2
  have h3 := h.v2 (j * 1) j2
  rw [<- Nat.mul_one 0] at h2
  have h3 : 1 <= (ps.getD (j * 1) []).getD (1 * 1) 0 /\ (ps.getD (j * 1) []).getD (1 * 1) 0 <= 5 := by simpa using h3
  have h4 := h.pr (j + 1) j2
  have h5 : pr2 ps j * (ps.getD (j * 1) []).getD (1 * 1) 0 = pr2 ps (j + 1) := by simp [pr2]
  have hA := Z7 ((ps.getD (j * 1) []).getD (0 * 1) 0) 1 2000
  have hB := Z7 ((ps.getD (j * 1) []).getD (1 * 1) 0) 1 2000
  rw [decide_eq_true j2] at hA hB
  rw [<- h5] at h4
  repeat' (first | (refine w2_ ?_ ?_ <;> intro _) | refine kM_ hA ?_ | refine kM_ hB ?_ | (guard_target =~ IsG; first | refine psA ?_ | (guard_target =~ Z3; first | refine Za.doit rfl rfl (sC_ (hA) mA8 rD8 rfl) ?_ | refine Za.doit rfl rfl (sC_ (hB) mA8 rD8 rfl) ?_)) | refine a1_ ?_|fail)
  all_goals try (exfalso; omega)
  all_goals try (exfalso; simp_all; done)
  exact ⟨j + 1, by omega, ⟨rfl, Zb h5, Zb j2, trivial⟩, by omega⟩
 ·obtain rfl : j = ps.length := by omega
  repeat' (first | (refine w2_ ?_ ?_ <;> intro _) | refine a1_ ?_|fail)
  all_goals first | rfl | (exfalso; omega)
end Go.Proofs.YtmgmpnhlehonmaaGreat
namespace Go.Proofs.YtmgmpnhlehonmaaGreat
set_option maxRecDepth 100000
set_option maxHeartbeats 20000000
open Go.Pv
open Go.ChangeShapes Go.WideShapes Go.ChangeAt Go.RowKit
attribute [local irreducible] Za WpA Zg Xf Zz Z6 Zd
attribute [local irreducible] decStrict decFalls decIsBr decWithin Qm Hs Vq Yz
theorem Zl0 {l : List Int} (h : Vq l) : Tms l := by
 have h1 := (Zcp l).1 h
 obtain ⟨p, q, r, _⟩ := h1
 have hb : ∀ i, i < l.length -> 0 <= l.getD i 0 /\ l.getD i 0 <= 2000 := fun i => by
  induction i with
  | zero => intro _; omega
  | succ i ih =>
   intro hi
   have h2 := ih j2
   have h3 := (r (i + 1) hi j2).1
   rw [Nat.add_sub_cancel] at h3
   omega
 refine ⟨⟨by omega, ?_⟩, fun i => ?_, fun i hi => ?_, by omega⟩
 ·have hdn : ∀ j, j < l.length -> Z1 l (j + 1) <= 64 - j := fun j => by
   induction j with
   | zero =>
    intro _
    have : Z1 l (0 + 1) = l.getD 0 0 := Wl j2
    omega
   | succ j ih =>
    intro hj
    have h2 := ih j2
    have h3 := (r (j + 1) hj j2).2
    have h4 := Qn (l := l) j2 j
    omega
  have h5 := hdn (l.length - 1) j2
  have h6 := Wk (l := l) j2 (l.length - 1)
  omega
 ·by_cases hi : i < l.length
  ·exact hb i hi
  ·rw [List.getD_eq_getElem?_getD, List.getElem?_eq_none j2]; simp
 ·have h3 := (r (i + 1) hi j2).1
  rw [Nat.add_sub_cancel] at h3
  omega
def Zjb (l : List Int) : Nat -> List (List Int)
 | 0 => []
 | j + 1 => Zjb l j ++ [[(l.getD (j + 1) 0 - (if j = 0 then 0 else l.getD j 0)) / (Vg l l.length).getD (j + 1) 0, (Vg l l.length).getD j 0 / (Vg l l.length).getD (j + 1) 0]]
theorem Qo (l : List Int) : ∀ j, (Zjb l j).length = j
 | 0 => rfl
 | j + 1 => by simp [Zjb, Qo l j]
theorem Zoi (l : List Int) : ∀ (j i : Nat), ((Zjb l j).getD i []).length <= 1000
 | 0, i => by simp [Zjb]
 | j + 1, i => by
  have ih := Zoi l j i
  rw [Zjb]
  by_cases hi : i < j
  ·rw [List.getD_eq_getElem?_getD, List.getElem?_append_left (by rw [Qo]; exact hi), <- List.getD_eq_getElem?_getD]; exact ih
  ·by_cases e : i = j
   ·rw [List.getD_eq_getElem?_getD, List.getElem?_append_right (by rw [Qo]; omega), Qo, e, Nat.sub_self]; simp
   ·rw [List.getD_eq_getElem?_getD, List.getElem?_eq_none (by simp [Qo]; omega)]; simp
theorem Zs1 (l : List Int) (h : Vq l) : Zj Tryz.prog 229 [Zp7 l] [rLL (Zjb l (l.length - 1))] [] := by
 have ht := Zl0 h
 have h0 := ht.pos
 have hge := Wk (l := l) h0
 have hl := ht.len
 have hdl := Yq l l.length
 have hd64 : ∀ i, i < l.length -> 1 <= (Vg l l.length).getD i 0 /\ (Vg l l.length).getD i 0 <= 64 := fun i hi => by
  rw [Zlz l _ i hi]
  refine ⟨hge i, ?_⟩
  have h1 : Z1 l 1 <= 64 := by
   have := ((Zcp l).1 h).2.1
   rw [Wl j2]; omega
  have : ∀ j, Z1 l (j + 1) <= 64 := fun j => by
   induction j with
   | zero => exact h1
   | succ j ih => exact Int.le_trans (Qn h0 j) ih
  exact this i
 have hD := Zax l ht
 have hR : ∀ j, Zjb l (j + 1) = Zjb l j ++ [[(l.getD (j + 1) 0 - (if j = 0 then 0 else l.getD j 0)) / (Vg l l.length).getD (j + 1) 0, (Vg l l.length).getD j 0 / (Vg l l.length).getD (j + 1) 0]] := fun j => rfl
 generalize Vg l l.length = E at *
 refine cA_ _ Tryz.func229 rfl Tryz.ntmps229 sO_ ?_
 repeat' (first | (refine w2_ ?_ ?_ <;> intro _) | (guard_target =~ Zh; first | refine Za.cons (sC_ (hD) (.sh .nil) (.shAgg rfl gA_ .nil) rfl) ?_) | refine a1_ ?_|fail)
 refine WpA.loop_slots (ι := Nat × Nat) (fun q => [(1, .own 1 (.pt true [.sl false 1 (Ze l)])), (3, .own 6 (.sl true 1 (Ze E))), (4, .own q.2 (.sl true 1 (LL (Zjb l q.1)))), (5, vI ((q.1 + 1 : Nat) : Int))]) (fun q => q.1 + 1 <= l.length) (fun q => l.length - q.1) (0, _) p9 ⟨rfl, rfl, xR_, rfl, trivial⟩ ?_
 rintro ⟨j, id⟩ s nx hj
 simp only at hj
 dsimp only
 have hnl := Qo l j
 by_cases hlt : j + 1 < l.length
 ·have e1 : ((((j + 1 : Nat) : Int) - 1).toNat) * 1 = j := by omega
  have e2 : (j + 1) * 1 = j + 1 := by omega
  have h1 := hd64 ((j + 1) * 1) j2
  have h2 := hd64 (((((j + 1 : Nat) : Int) - 1).toNat) * 1) j2
  have b1 := ht.bnd ((j + 1) * 1)
  have b2 := ht.bnd (((((j + 1 : Nat) : Int) - 1).toNat) * 1)
  have hR := hR j
  have b3 : l.getD ((((j + 1 : Nat) : Int) - 1).toNat * 1) 0 <= l.getD ((j + 1) * 1) 0 := by rw [e1, e2]; exact ht.asc j hlt
  clear hd64 ht hge
  by_cases hj0 : j = 0
  ·rw [if_pos hj0, Int.sub_zero] at hR
   repeat' (first | (refine w2_ ?_ ?_ <;> intro _) | refine a1_ ?_|fail)
   all_goals try (exfalso; omega)
   all_goals exact ⟨(j + 1, _), by simp only; omega, ⟨rfl, rfl, by exact V1 (by rw [hR, e1, e2]), Zb (by simp), trivial⟩, by simp only; omega⟩
  ·rw [if_neg hj0] at hR
   repeat' (first | (refine w2_ ?_ ?_ <;> intro _) | refine a1_ ?_|fail)
   all_goals try (exfalso; omega)
   all_goals exact ⟨(j + 1, _), by simp only; omega, ⟨rfl, rfl, by exact V1 (by rw [hR, e1, e2]), Zb (by simp), trivial⟩, by simp only; omega⟩
 ·repeat' (first | (refine w2_ ?_ ?_ <;> intro _) | refine a1_ ?_|fail)
  all_goals first | (exfalso; omega) | (rw [show l.length - 1 = j by omega]) | rfl
def eT (ps : List (List Int)) (n : Int) : Nat -> Int
 | 0 => n
 | j + 1 => eT ps n j / (ps.getD j []).getD 1 0
def laT (ps : List (List Int)) (n : Int) : Nat -> Int
 | 0 => 0
 | j + 1 => laT ps n j + (ps.getD j []).getD 0 0 * eT ps n (j + 1)
def teT (ps : List (List Int)) (n : Int) : Nat -> List Int
 | 0 => [n]
 | j + 1 => teT ps n j ++ [laT ps n (j + 1)]
theorem Zl1 (ps : List (List Int)) (n : Int) : ∀ j, (teT ps n j).length = j + 1
 | 0 => rfl
 | j + 1 => by simp [teT, Zl1 ps n j]
theorem Zl2 {ps : List (List Int)} (h : Zes ps) {n : Int} (hn : 1 <= n /\ n <= 64) : ∀ j, j <= ps.length -> 0 <= eT ps n j /\ eT ps n j <= 64
 | 0, _ => by simp only [eT]; omega
 | j + 1, hj => by
  have ih := Zl2 h hn j j2
  have h2 := (h.v2 j j2).1
  simp only [eT]
  refine ⟨Int.ediv_nonneg ih.1 j2, ?_⟩
  have := Int.ediv_le_self ((ps.getD j []).getD 1 0) ih.1
  omega
theorem Zl3 {ps : List (List Int)} (h : Zes ps) {n : Int} (hn : 1 <= n /\ n <= 64) : ∀ j, j <= ps.length -> 0 <= laT ps n j /\ laT ps n j <= 3840 * j
 | 0, _ => by simp [laT]
 | j + 1, hj => by
  have ih := Zl3 h hn j j2
  have h1 := h.v1 j j2
  have h2 := Zl2 h hn (j + 1) hj
  have h3 : 0 <= (ps.getD j []).getD 0 0 * eT ps n (j + 1) := Int.mul_nonneg j2 h2.1
  have h4 : (ps.getD j []).getD 0 0 * eT ps n (j + 1) <= 60 * 64 := Int.mul_le_mul h1.2 h2.2 h2.1 j2
  simp only [laT]
  omega
theorem Xa0 {id : Nat} {A B : List Int} (h : A = B) : AV.own id (.pt true [.sl true 1 (Ze A)]) = AV.own id (.pt true [.sl true 1 (Ze B)]) := by rw [h]
theorem Xa1 (ps : List (List Int)) (h : Zes ps) : ∃ (T : List Int) (code : Int), (code = 0 /\ Vq T \/ code ≠ 0 /\ T = []) /\ Zj Tryz.prog 214 [aLL ps] [.agg [.sl true 1 (Ze T)], rI code] [] := by
 have hl := h.len
 have hn := h.pr ps.length (Nat.le_refl _)
 have hP := Zwj ps h
 generalize pr2 ps ps.length = n at *
 have hT := Zl1 ps n ps.length
 have hB := Zp6 (teT ps n ps.length) j2
 have hW0 : ∀ i, (ps.getD i []).length <= 1000 := fun i => by
  by_cases hi : i < ps.length
  ·rw [h.row i hi]; omega
  ·rw [List.getD_eq_getElem?_getD, List.getElem?_eq_none j2]; simp
 have hNS : Vq (teT ps n ps.length) -> ∃ W, Zj Tryz.prog 229 [Zp7 (teT ps n ps.length)] [rLL W] [] /\ Zj Tryz.prog 228 [aLL W, aLL ps] [rB (decide (W = ps))] [] := fun hbr =>
  ⟨_, Zs1 _ hbr, Zwi _ ps (by rw [Qo]; omega) j2 (fun i => Zoi _ _ i) hW0⟩
 have main : ∃ ok : Bool, (ok = true -> Vq (teT ps n ps.length)) /\ Zj Tryz.prog 214 [aLL ps] [.agg [.sl true 1 (Ze (if ok then teT ps n ps.length else []))], rI (if ok then 0 else 5)] [] := by
  obtain ⟨ok, hok⟩ : ∃ ok : Bool, (ok = false /\ ¬ Vq (teT ps n ps.length)) \/ (Vq (teT ps n ps.length) /\ ∃ W, Zj Tryz.prog 229 [Zp7 (teT ps n ps.length)] [rLL W] [] /\ Zj Tryz.prog 228 [aLL W, aLL ps] [rB ok] []) := by
   by_cases hbr : Vq (teT ps n ps.length)
   ·obtain ⟨W, h1, h2⟩ := hNS hbr
    exact ⟨decide (W = ps), .inr ⟨hbr, W, h1, h2⟩⟩
   ·exact ⟨false, .inl ⟨rfl, hbr⟩⟩
  refine ⟨ok, fun e => ?_, ?_⟩
  ·rcases hok with ⟨h1, _⟩ | ⟨h1, _⟩
   ·rw [h1] at e; cases e
   ·exact h1
  clear hNS
  refine cA_ _ Tryz.func214 rfl Tryz.ntmps214 (by cases ok <;> simp [V.solid, D.solid, D.solids, V7]) ?_
  repeat' (first | (refine w2_ ?_ ?_ <;> intro _) | refine kM_ hP ?_ | (guard_target =~ IsG; first | refine psA ?_ | (guard_target =~ Z3; first | refine Za.doit rfl rfl (sC_ (hP) mA8 rD8 rfl) ?_)) | refine aD_ ?_|fail)
  all_goals try (exfalso; omega)
  refine WpA.loop_slots2 (fun j id => [(0, .c (.sl false 1 (LLs ps))), (2, .own 1 (.pt true [.sl true 1 []])), (5, .own id (.pt true [.sl true 1 (Ze (teT ps n j))])), (6, vI (eT ps n j)), (7, vI (laT ps n j)), (8, vI j)]) (fun j => j <= ps.length) (fun j => ps.length - j) 0 _ (by simp) ⟨rfl, rfl, rfl, rfl, rfl, rfl, trivial⟩ ?_
  intro j id s nx hj
  by_cases hlt : j < ps.length
  ·have hT := Zl1 ps n j
   have b1 := Zl2 h hn j hj
   have b2 := Zl2 h hn (j + 1) hlt
   have b3 := Zl3 h hn j hj
   have b4 := Zl3 h hn (j + 1) hlt
   have r1 := h.row (j * 1) j2
   have r2 : 1 <= (ps.getD (j * 1) []).getD (0 * 1) 0 /\ (ps.getD (j * 1) []).getD (0 * 1) 0 <= 60 := by simpa using h.v1 j hlt
   have r3 : 1 <= (ps.getD (j * 1) []).getD (1 * 1) 0 /\ (ps.getD (j * 1) []).getD (1 * 1) 0 <= 5 := by simpa using h.v2 j hlt
   have e1 : eT ps n j / (ps.getD (j * 1) []).getD (1 * 1) 0 = eT ps n (j + 1) := by simp [eT]
   have e2 : laT ps n j + (ps.getD (j * 1) []).getD (0 * 1) 0 * (eT ps n j / (ps.getD (j * 1) []).getD (1 * 1) 0) = laT ps n (j + 1) := by rw [e1]; simp [laT]
   rw [<- e1] at b2
   rw [<- e2] at b4
   clear hok hB
   repeat' (first | (refine w2_ ?_ ?_ <;> intro _) | refine aD_ ?_|fail)
   all_goals try (exfalso; omega)
   exact ⟨j + 1, by omega, ⟨_, rfl, rfl, by exact Xa0 (A := teT ps n j ++ [laT ps n j + (ps.getD (j * 1) []).getD (0 * 1) 0 * (eT ps n j / (ps.getD (j * 1) []).getD (1 * 1) 0)]) (by rw [e2]; rfl), Zb e1, Zb e2, Zb j2, trivial⟩, by omega⟩
  ·obtain rfl : j = ps.length := by omega
   clear hP h
   rcases hok with ⟨rfl, hbr⟩ | ⟨hbr, W, hN, hS⟩
   ·rw [decide_eq_false hbr] at hB
    repeat' (first | (refine w2_ ?_ ?_ <;> intro _) | (guard_target =~ Zh; first | refine Za.cons (sC_ (hB) (.sh .nil) (.shAgg rfl gA_ .nil) rfl) ?_) | (guard_target =~ IsG; first | refine psA ?_ | (guard_target =~ Z3; first | refine Za.doit rfl rfl (sC_ (hB) (.sh .nil) (.shAgg rfl gA_ .nil) rfl) ?_)) | refine aD_ ?_|fail)
    all_goals first | (exfalso; omega) | rfl | (simp [Ze]; done)
   ·rw [decide_eq_true hbr] at hB
    cases ok with
    | true =>
     repeat' (first | (refine w2_ ?_ ?_ <;> intro _) | (guard_target =~ Zh; first | refine Za.cons (sC_ (hB) (.sh .nil) (.shAgg rfl gA_ .nil) rfl) ?_ | refine Za.cons (sC_ (hN) (.sh .nil) (.shAgg rfl gA_ .nil) rfl) ?_ | refine kM_ hS ?_) | (guard_target =~ IsG; first | refine psA ?_ | (guard_target =~ Z3; first | refine Za.doit rfl rfl (sC_ (hB) (.sh .nil) (.shAgg rfl gA_ .nil) rfl) ?_ | refine Za.doit rfl rfl (sC_ (hN) (.sh .nil) (.shAgg rfl gA_ .nil) rfl) ?_ | refine Za.doit rfl rfl (sC_ (hS) mA8 rD8 rfl) ?_)) | refine aD_ ?_|fail)
     all_goals first | (exfalso; omega) | rfl | (simp [Ze]; done)
    | false =>
     repeat' (first | (refine w2_ ?_ ?_ <;> intro _) | (guard_target =~ Zh; first | refine Za.cons (sC_ (hB) (.sh .nil) (.shAgg rfl gA_ .nil) rfl) ?_ | refine Za.cons (sC_ (hN) (.sh .nil) (.shAgg rfl gA_ .nil) rfl) ?_ | refine kM_ hS ?_) | (guard_target =~ IsG; first | refine psA ?_ | (guard_target =~ Z3; first | refine Za.doit rfl rfl (sC_ (hB) (.sh .nil) (.shAgg rfl gA_ .nil) rfl) ?_ | refine Za.doit rfl rfl (sC_ (hN) (.sh .nil) (.shAgg rfl gA_ .nil) rfl) ?_ | refine Za.doit rfl rfl (sC_ (hS) mA8 rD8 rfl) ?_)) | refine aD_ ?_|fail)
     all_goals first | (exfalso; omega) | rfl | (simp [Ze]; done)
 obtain ⟨ok, h1, h2⟩ := main
 cases ok with
 | true => exact ⟨_, _, .inl ⟨rfl, h1 rfl⟩, h2⟩
 | false => exact ⟨_, _, .inr ⟨by simp, rfl⟩, h2⟩
end Go.Proofs.YtmgmpnhlehonmaaGreat
