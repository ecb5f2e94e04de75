/- slices.Repeat of one element. No condition. -/
import Derived.Test.YtmgmpnhlehonmaaGreatKPwC
import Derived.Laws.CopyRow
import Derived.Laws.IdiomCopy
import Derived.Test.YtmgmpnhlehonmaaGreatKGrC
import Derived.Test.YtmgmpnhlehonmaaGreatKGrY
set_option linter.unusedVariables false
set_option linter.unusedSimpArgs false
namespace Go.Pv
open Go.RowKit
section
variable {P : Program} {n : NN} {nid : Nat} {st : Nat → AV} {f : Fr} {X : Nat → Prop} {a : Act} {w : World} {ρ : Nat → Rho} {L : Nat → List Nat} {M : List Nat}
inductive DstAt (st : Nat → AV) : Operand → Nat → Nat → List D → Nat → Nat → List Nat → Prop
 | root {t id cs} : st t = .own id (.sl true 1 cs) → DstAt st (.tmp t) t id cs 0 cs.length [t]
 | als {t x id cs} : st t = .als x id [] → st x = .own id (.sl true 1 cs) → DstAt st (.tmp t) x id cs 0 cs.length [t, x]
 | sub {t x id lo n0 cs} : st t = .sub x id [] 1 lo n0 → st x = .own id (.sl true 1 cs) → DstAt st (.tmp t) x id cs lo n0 [t, x]
theorem DstAt.agree {st' : Nat → AV} {x : Operand} {xr id lo n0 : Nat} {cs : List D} {rd : List Nat} (h : DstAt st x xr id cs lo n0 rd) (hs : ∀ s ∈ rd, st' s = st s) : DstAt st' x xr id cs lo n0 rd := by
 cases h with
 | root h => exact .root ((hs _ (by simp)).trans h)
 | als h1 h2 => exact .als ((hs _ (by simp)).trans h1) ((hs _ (by simp)).trans h2)
 | sub h1 h2 => exact .sub ((hs _ (by simp)).trans h1) ((hs _ (by simp)).trans h2)
theorem RDs_vals {α : Type} {g0 : α → Value} {F : Nat → Prop} {w : World} : ∀ (A : List α) (k : Nat) (r : Rho) (us : List Value) (L : List Nat), RDs F w (A.map fun x => D.lit (g0 x)) k r us L → us = A.map g0 ∧ L = []
 | [], _, _, _, _, h => by simpa only [List.map_nil, RDs] using h
 | x :: A, k, r, us, L, h => by
  simp only [List.map_cons, RDs] at h
  obtain ⟨u, us', L1, L2, rfl, rfl, h1, h2⟩ := h
  simp only [RD] at h1
  obtain ⟨rfl, _, rfl⟩ := h1
  obtain ⟨rfl, rfl⟩ := RDs_vals A (k + 1) r us' L2 h2
  exact ⟨rfl, rfl⟩
theorem RDs_of_vals {α : Type} {g0 : α → Value} {F : Nat → Prop} {w : World} (h1 : ∀ x, (g0 x).oneCell' = true) : ∀ (A : List α) (k : Nat) (r : Rho), RDs F w (A.map fun x => D.lit (g0 x)) k r (A.map g0) []
 | [], _, _ => by simp [RDs]
 | x :: A, k, r => by
  simp only [List.map_cons, RDs]
  exact ⟨_, _, [], [], rfl, rfl, by simp only [RD]; exact ⟨trivial, h1 x, trivial⟩, RDs_of_vals h1 A (k + 1) r⟩
theorem erases_vals {α : Type} {g0 : α → Value} (A : List α) : D.erases (A.map fun x => D.lit (g0 x)) = A.map fun x => D.lit (g0 x) := by
 rw [D.erases_eq, List.map_map]
 rfl
def cpy {α : Type} (A B : List α) (lo n0 : Nat) : List α := A.take lo ++ B.take (min B.length n0) ++ A.drop (lo + min B.length n0)
theorem step_copyB {α : Type} {g0 : α → Value} {A B : List α} {d : Nat} {xd xs : Operand} {x id lo n0 : Nat} {T T2 : TypeId} {rd rd2 : List Nat} {ty pos aft g} [hT : SliceTy P T 1] (h : DstAt st xd x id (A.map fun a => D.lit (g0 a)) lo n0 rd)
  (hv : View st xs rd2 1 (B.map fun a => D.lit (g0 a))) (hone : ∀ a, (g0 a).oneCell' = true) (hln : lo + n0 ≤ A.length) (hne : (d == x) = false) (hd : n d = true) :
  Step P n ⟨some d, .call ⟨.builtin .copy, #[xd, xs], #[T, T2]⟩, ty, pos, aft, g⟩ nid st (rd ++ rd2) [(d, .c (.lit (.int .i64 (min B.length n0 : Nat)))), (x, .own id (.sl true 1 ((cpy A B lo n0).map fun a => D.lit (g0 a))))] := by
 intro X st' hs hX f a w hn hrep K Q hK
 obtain ⟨ρ, L, hr⟩ := hrep
 subst hn
 have hne : d ≠ x := by simpa using hne
 have h' := h.agree (st' := st') fun s hs' => hs s (List.mem_append_left _ hs')
 have hv' := hv.agree (st' := st') fun s hs' => hs s (List.mem_append_right _ hs')
 have hxs : st' x = .own id (.sl true 1 (A.map fun a => D.lit (g0 a))) := by cases h' <;> assumption
 have hidX : X id := by
  have := hr.ids x
  rw [hxs] at this
  exact this id (by simp [AV.ids])
 have hx := hr.slots x
 rw [hxs] at hx
 simp only [SR, RD] at hx
 obtain ⟨e0, us, L0, L1, eL, hrow, hcells⟩ := hx
 obtain ⟨rfl, rfl⟩ := RDs_vals A 0 _ us L1 hcells
 rw [List.append_nil] at eL
 obtain ⟨us2, r2, ⟨a2, n2, c2, es, k1, k2, k3, k4⟩, hc2⟩ := hv'.read hr
 rw [erases_vals] at hc2
 obtain ⟨rfl, _⟩ := RDs_vals B 0 _ us2 [] hc2
 simp only [Nat.mul_one, List.length_map] at k1
 obtain ⟨e, ti, z, t1, t2, t3, t4, _⟩ := hT.out
 have hsz : (P.info? e).map (·.size) = some 1 := by simp [t2, t3]
 have hrest : ∀ (w' : World) (us' : List Value), us' = (cpy A B lo n0).map g0 → Keep w L0 w' → Row w' (tmp a x) 1 us' L0 → K (a.put (some d) (.int .i64 (min B.length n0 : Nat))) w' := by
  intro w' us' hus hk hrow'
  refine hK _ _ ⟨ρ, fun s => if s = d then [] else L s, ?_⟩
  refine hr.step (fun s => s = x ∨ s = d) L0 _ _ _ w' _ _ (put_defers _ _ _) (put_size _ _ _) (hold_put _ hd) hk (fun g hg => ⟨x, .inl rfl, by rw [eL]; exact hg⟩) (fun _ _ => rfl) (fun s hs' => ?_) (fun s hs' => ?_) (fun s u hs' hu hsu g hg hgu => ?_) (fun _ h => .inl h) (fun s hs' i hi => ?_)
  ·simp only [not_or] at hs'
   exact ⟨by simp only [puts]; rw [put_other _ _ _ _ hs'.1, put_other _ _ _ _ hs'.2], tmp_put_other _ _ _ _ hs'.2, by simp [hs'.2]⟩
  ·by_cases hsx : s = x
   ·subst hsx
    rw [if_neg (Ne.symm hne), tmp_put_other _ _ _ _ (Ne.symm hne)]
    simp only [puts, put_same, SR, RD]
    refine ⟨⟨e0, us', L0, [], by rw [eL]; simp, hrow', by rw [hus]; exact RDs_of_vals hone _ _ _⟩, hr.nodup s, fun g hg => ⟨Nat.lt_of_lt_of_le (hr.bound s g hg).1 hk.size, .inl ⟨s, .inl rfl, hg⟩⟩⟩
   ·have hs0 : s = d := hs'.resolve_left hsx
    subst hs0
    rw [if_pos rfl, tmp_put_same _ _ _ (hr.size _ hd)]
    simp only [puts]
    rw [put_other _ _ _ _ hsx, put_same]
    exact ⟨SR_lit rfl, List.nodup_nil, fun g hg => by simp at hg⟩
  ·by_cases hsd : s = d
   ·rw [if_pos hsd] at hg; simp at hg
   ·by_cases hud : u = d
    ·rw [if_pos hud] at hgu; simp at hgu
    ·have h1 := hs'.resolve_right hsd
     have h2 := hu.resolve_right hud
     exact hsu (h1.trans h2.symm)
  ·by_cases hsx : s = x
   ·subst hsx
    simp only [puts, put_same, AV.ids, List.mem_singleton] at hi
    exact .inl (by rw [hi]; exact hidX)
   ·have hs0 : s = d := hs'.resolve_left hsx
    subst hs0
    simp only [puts] at hi
    rw [put_other _ _ _ _ hsx, put_same] at hi
    simp [AV.ids] at hi
 have hdst : ∃ ad c1, a.eval xd = .slice ad n0 c1 ∧ (n0 ≠ 0 → ∃ g o nn cap cur ty', tmp a x = .slice (some ⟨g, o, none⟩) nn cap ∧ w.heap[g]? = some (.cells cur ty' (0, 0)) ∧ ad = some ⟨g, o + lo, none⟩ ∧ nn = A.length ∧ nn ≤ cap ∧ cap ≤ maxLen ∧ o + cap ≤ cur.size ∧ (cur.toList.drop o).take nn = A.map g0 ∧ L0 = [g]) := by
  rcases hrow with ⟨ev, eu, eL0⟩ | ⟨g, o, nn, cap, cur, ty', ev, q2, q3, q4, q5, q6, q7, eL0⟩
  ·have hA : A = [] := by simpa using eu
   subst hA
   have hn0 : n0 = 0 := by simp at hln; omega
   subst hn0
   cases h' with
   | root ht => exact ⟨none, 0, ev, fun h => absurd rfl h⟩
   | @als t _ _ _ ht hx' =>
    have := hr.slots t
    rw [ht] at this
    simp only [SR] at this
    exact ⟨none, 0, by show tmp a t = _; rw [this.2, ← e0, ev], fun h => absurd rfl h⟩
   | @sub t _ _ lo _ _ ht hx' =>
    have := hr.slots t
    rw [ht] at this
    simp only [SR] at this
    obtain ⟨_, b0, m0, c0, b1, c1, p1, p2, _⟩ := this
    exact ⟨b1, c1, p2, fun h => absurd rfl h⟩
  ·simp only [Nat.mul_one, List.length_map] at q3 q6 q7
   cases h' with
   | root ht =>
    refine ⟨some ⟨g, o, none⟩, cap, ?_, fun _ => ⟨g, o, nn, cap, cur, ty', ev, q2, rfl, q3, q4, q5, q6, q7, eL0⟩⟩
    show tmp a x = _
    rw [ev, q3]; simp
   | @als t _ _ _ ht hx' =>
    have := hr.slots t
    rw [ht] at this
    simp only [SR] at this
    refine ⟨some ⟨g, o, none⟩, cap, ?_, fun _ => ⟨g, o, nn, cap, cur, ty', ev, q2, rfl, q3, q4, q5, q6, q7, eL0⟩⟩
    show tmp a t = _
    rw [this.2, ← e0, ev, q3]; simp
   | @sub t _ _ lo _ _ ht hx' =>
    have := hr.slots t
    rw [ht] at this
    simp only [SR] at this
    obtain ⟨_, b0, m0, c0, b1, c1, p1, p2, p3, p4, p5, p6⟩ := this
    refine ⟨b1, c1, p2, fun hz => ⟨g, o, nn, cap, cur, ty', ev, q2, ?_, q3, q4, q5, q6, q7, eL0⟩⟩
    obtain ⟨s1, s2⟩ := p6 hz
    rw [← e0, ev] at p1
    injection p1 with p1 _ _
    rw [s2, ← p1]
    simp only [Option.map_some, Nat.mul_one]
    rw [addr_off]
 obtain ⟨ad, c1, ed, hdst⟩ := hdst
 have hop : ∀ (v : Value) (w' : World), (Builtin.copy_ #[T, T2] ty #[.slice ad n0 c1, .slice a2 n2 c2]).run P w = .ok v w' → (execOp a.eval ⟨some d, .call ⟨.builtin .copy, #[xd, xs], #[T, T2]⟩, ty, pos, aft, g⟩).run P w = .ok (.value v) w' := by
  intro v w' hrun
  simp [execOp, resolve, invoke, builtin, ed, es, hrun]
 by_cases hm : min B.length n0 = 0
 ·have hrun := run_copy_none (P := P) w T T2 ty e ad a2 n0 c1 n2 c2 t1 hsz (by rw [k1]; exact hm)
  refine wV_ (hop _ _ hrun) ?_
  have e1 : (goInt 0 : Value) = .int .i64 (min B.length n0 : Nat) := by rw [hm]; rfl
  rw [e1]
  refine hrest w ((cpy A B lo n0).map g0) rfl ⟨rfl, rfl, rfl, Nat.le_refl _, fun _ _ _ => rfl, Nat.le_refl _⟩ ?_
  have : cpy A B lo n0 = A := by unfold cpy; rw [hm]; simp
  rw [this]
  exact hrow
 ·have hn0 : n0 ≠ 0 := fun h => hm (by rw [h]; simp)
  obtain ⟨g, o, nn, cap, cur, ty', ev, q2, rfl, q3, q4, q5, q6, q7, eL0⟩ := hdst hn0
  have hBne : B.map g0 ≠ [] := by
   intro hB
   have : B = [] := by simpa using hB
   exact hm (by rw [this]; simp)
  obtain ⟨b2, rfl, _, hcell⟩ := k4 hBne
  have hml : ((B.take (min B.length n0)).map g0).length = min B.length n0 := by simp
  have hrun := run_copy_row (P := P) w T T2 ty e g (o + lo) n0 c1 b2 n2 c2 cur ty' ((B.take (min B.length n0)).map g0) t1 hsz q2 (by rw [hml, k1]) (fun j v hj => hcell j v (by
    rw [List.getElem?_map] at hj
    rw [List.getElem?_map]
    by_cases hjm : j < min B.length n0
    ·rwa [List.getElem?_take_of_lt hjm] at hj
    ·rw [List.getElem?_take, if_neg hjm] at hj; simp at hj)) (by rw [hml]; omega) (fun v hv => by
    obtain ⟨y, _, rfl⟩ := List.mem_map.1 hv
    exact hone y)
  refine wV_ (hop _ _ hrun) ?_
  rw [hml]
  rw [hml] at hrun
  refine hrest _ ((cpy A B lo n0).map g0) rfl ⟨rfl, rfl, rfl, by simp, fun k _ hk => setRow_other w g k _ (by rw [eL0] at hk; simpa using hk), Nat.le_refl _⟩ ?_
  have hcl : (cpy A B lo n0).length = A.length := by simp [cpy]; omega
  have hcur : o + cap ≤ cur.toList.length := by simpa using q6
  refine .inr ⟨g, o, nn, cap, _, ty', ev, setRow_heap w g cur _ ty' _ q2, by simp [hcl, q3], q4, q5, ?_, ?_, eL0⟩
  ·simp only [Nat.mul_one, List.size_toArray, List.length_append, List.length_take, List.length_drop, hml]
   omega
  ·simp only [Nat.mul_one, List.toList_toArray]
   have hQ : (cur.toList.take (o + lo) ++ (B.take (min B.length n0)).map g0 ++ cur.toList.drop (o + lo + min B.length n0)).drop o = (cur.toList.drop o).take lo ++ (B.take (min B.length n0)).map g0 ++ (cur.toList.drop o).drop (lo + min B.length n0) := by
    rw [List.append_assoc, List.drop_append_of_le_length (by rw [List.length_take]; omega), List.drop_take, Nat.add_sub_cancel_left, List.append_assoc, List.drop_drop, Nat.add_assoc]
   rw [hQ]
   generalize cur.toList.drop o = Q at *
   have hsplit : Q = A.map g0 ++ Q.drop nn := by rw [← q7, List.take_append_drop]
   rw [hsplit]
   have h1 : (A.map g0 ++ Q.drop nn).take lo = (A.take lo).map g0 := by
    rw [List.take_append_of_le_length (by simp; omega), List.map_take]
   have h2 : (A.map g0 ++ Q.drop nn).drop (lo + min B.length n0) = (A.drop (lo + min B.length n0)).map g0 ++ Q.drop nn := by
    rw [List.drop_append_of_le_length (by simp; omega), List.map_drop]
   rw [h1, h2, ← List.append_assoc, ← List.map_append, ← List.map_append]
   have h3 : (A.take lo ++ B.take (min B.length n0) ++ A.drop (lo + min B.length n0)) = cpy A B lo n0 := rfl
   rw [h3, List.take_append_of_le_length (by simp [hcl, q3]), List.take_of_length_le (by simp [hcl, q3])]
end
end Go.Pv
namespace Go.Proofs.YtmgmpnhlehonmaaGreat
set_option maxHeartbeats 20000000
open Go.Pv
open Go.ChangeShapes Go.WideShapes Go.ChangeAt Go.RowKit
attribute [local irreducible] RunU WpA Step CallG CallNG Done DoneN
instance fnOk166 : FnOk Tryz.prog 166 := ⟨_, Tryz.func166, rfl, by decide⟩
instance fnOk126 : FnOk Tryz.prog 126 := ⟨_, Tryz.func126, rfl, by decide⟩
abbrev aU (x : Int) : Arg := .sh (.one (.lit (.int .u64 x)))
abbrev rU (x : Int) : V := .one (.lit (.int .u64 x))
abbrev aBs (l : List Bool) : Arg := .sh (.one (.sl false 1 (bools l)))
abbrev rBs (l : List Bool) : V := .one (.sl true 1 (bools l))
theorem outs_shs {F : Nat → Prop} {w : World} : ∀ (xs : List Value), OutsR F w (xs.map fun v => Arg.sh (.one (.lit v))) xs [] []
 | [] => by simp [OutsR]
 | v :: xs => by simp only [List.map_cons, OutsR]; exact ⟨v, xs, rfl, outs_shs xs⟩
theorem args_shs {F : Nat → Prop} {w : World} : ∀ (xs : List Value) {vs : List Value} {M : List Nat}, ArgsR F w (xs.map fun v => Arg.sh (.one (.lit v))) vs M → vs = xs ∧ M = []
 | [], vs, M, h => by simpa only [List.map_nil, ArgsR] using h
 | v :: xs, vs, M, h => by
  simp only [List.map_cons, ArgsR, ArgR, VR, RD] at h
  obtain ⟨u, us', L1, L2, rfl, rfl, ⟨rfl, r, rfl, _⟩, h2⟩ := h
  obtain ⟨rfl, rfl⟩ := args_shs xs h2
  exact ⟨rfl, rfl⟩
theorem vrs_lits {F : Nat → Prop} {w : World} : ∀ (rs : List Value), (∀ v ∈ rs, v.oneCell' = true) → VRs F w (rs.map fun v => .one (.lit v)) rs []
 | [], _ => by simp [VRs]
 | v :: rs, h => by
  simp only [List.map_cons, VRs]
  exact ⟨v, rs, [], [], rfl, rfl, ⟨fun _ => undef, by simp only [RD]; exact ⟨trivial, h v (by simp), trivial⟩⟩, vrs_lits rs fun u hu => h u (by simp [hu])⟩
theorem callA_lits {P : Program} {K : FuncId} (xs rs : List Value) (ho : ∀ v ∈ rs, v.oneCell' = true) (h : ∀ w, Calls P K xs.toArray w fun e w' => e = .returned (retVal rs) ∧ w' = w) : CallA P K (xs.map fun v => .sh (.one (.lit v))) (rs.map fun v => .one (.lit v)) [] := by
 unfold CallA CallG
 intro w vs M F hF hargs hnd hM
 obtain ⟨rfl, rfl⟩ := args_shs xs hargs
 refine (h w).mono ?_
 rintro e w' ⟨rfl, rfl⟩
 exact ⟨rs, [], [], rfl, Keep.refl _, vrs_lits rs ho, outs_shs vs, List.nodup_nil, by simp⟩
theorem mul_c (y : Nat) (hy : y ≤ 1000000) : CallA Tryz.prog 166 [aU 1, aU y] [rU 0, rU y] [] := by
 refine callA_lits [.int .u64 1, .int .u64 y] [.int .u64 0, .int .u64 y] (by simp [Value.oneCell']) fun w => ?_
 have := Any.bits_Mul bitsMul 1 y (by omega) (by omega) w
 rw [show (1 * y / 18446744073709551616 : Nat) = 0 by omega, show (1 * y % 18446744073709551616 : Nat) = y by omega] at this
 exact this
theorem wrap64 {a : Int} (h : 0 ≤ a ∧ a ≤ 9223372036854775807) : IntKind.u64.wrap a = a := by simp [IntKind.wrap, IntKind.bits, IntKind.signed]; omega
theorem step_conv_u64 {P : Program} {n : NN} {nid : Nat} {st : Nat → AV} {d : Nat} {x : Operand} {a : Int} {S T : TypeId} {ty pos aft g} [hT : IntTy P T .u64] [hS : IntTy P S .i64] (hx : Go.Pv.Lit st x (.int .i64 a)) (h : 0 ≤ a ∧ a ≤ 9223372036854775807) (hd : n d = true) :
  Step P n ⟨some d, .convert S T x, ty, pos, aft, g⟩ nid st (rdOf x) [(d, .c (.lit (.int .u64 a)))] := by
 have := step_convert (P := P) (n := n) (nid := nid) (S := S) (T := T) (ty := ty) (pos := pos) (aft := aft) (g := g) hx hd
 rwa [wrap64 h] at this
theorem rep_take {α : Type} (b z : α) {c n : Nat} (h : c ≤ n) : (List.replicate c b ++ List.replicate (n - c) z).take c = List.replicate c b := by
 rw [List.take_append_of_le_length (by simp), List.take_of_length_le (by simp)]
theorem rep_cpy {α : Type} (b z : α) {c n : Nat} (h : c ≤ n) : cpy (List.replicate c b ++ List.replicate (n - c) z) (List.replicate c b) c (n - c) = List.replicate (c + min c (n - c)) b ++ List.replicate (n - (c + min c (n - c))) z := by
 unfold cpy
 rw [rep_take b z h, List.length_replicate, List.take_replicate, List.drop_append, List.drop_of_length_le (by simp), List.length_replicate, List.drop_replicate, List.nil_append, List.replicate_append_replicate, show min (min c (n - c)) c = min c (n - c) by omega]
 congr 2
 omega
theorem rep_first {α : Type} (b z : α) (n : Nat) : cpy (List.replicate n z) [b] 0 n = List.replicate (min 1 n) b ++ List.replicate (n - min 1 n) z := by
 unfold cpy
 cases n with
 | zero => simp
 | succ n => simp [show min 1 (n + 1) = 1 by omega]
theorem repeatB_c (b : Bool) (m : Nat) (hm : m ≤ 1000000) : CallA Tryz.prog 126 [aBs [b], aI m] [rBs (List.replicate m b)] [] := by
 refine cA_ _ Tryz.func126 rfl Tryz.ntmps126 sO_ ?_
 have h1 : 0 ≤ (([b].length : Nat) : Int) ∧ (([b].length : Nat) : Int) ≤ 9223372036854775807 := by constructor <;> simp
 repeat' (first | (refine Two.mk ?_ ?_ <;> intro _) | (guard_target =~ CallN_; first | refine RunU.cons (sC_ (mul_c m hm) (.sh (.sh .nil)) (.sh wS_ (.sh wS_ .nil)) rfl) ?_) | (guard_target =~ IsN; first | refine RunU.cons (step_conv_u64 rfl h1 rfl) ?_ | refine RunU.cons (step_conv_u64 rfl (by omega) rfl) ?_ | refine RunU.cons (step_copyB (g0 := fun b => Value.bool b) (.als rfl rfl) (.sh rfl) (fun _ => rfl) (by simp) rfl rfl) ?_) | refine goA ?_ | (guard_target =~ IsG; first | refine psA ?_ | refine gdA ?_) | refine nxA ?_ | refine Done.ret (.one rA_ .nil) (.sh (.sh .nil)) ?_ rfl)
 all_goals try (exfalso; omega)
 refine WpA.loop_slots2 (fun c id => [(7, .own id (.sl true 1 (bools (List.replicate c b ++ List.replicate (m - c) false)))), (8, vGI c)]) (fun c => c ≤ m ∧ (c = 0 → m = 0)) (fun c => m - c) (min 1 m) _ (by omega) ⟨by exact own_bools (by rw [← rep_first b false m]; simp), int_eq (by simp), trivial⟩ ?_
 rintro c id s nx ⟨hc, hc0⟩
 have hlA : (List.replicate c b ++ List.replicate (m - c) false).length = m := by simp; omega
 have key := rep_cpy b false hc
 generalize hA : List.replicate c b ++ List.replicate (m - c) false = A at *
 have htk : A.take c = List.replicate c b := by rw [← hA]; exact rep_take b false hc
 by_cases hlt : c < m
 ·repeat' (first | (refine Two.mk ?_ ?_ <;> intro _) | (guard_target =~ IsN; first | refine RunU.cons (step_copyB (g0 := fun b => Value.bool b) (.sub rfl rfl) (View.cut rfl rfl rfl) (fun _ => rfl) (by omega) rfl rfl) ?_) | refine goA ?_ | (guard_target =~ IsG; first | refine psA ?_ | refine gdA ?_) | refine nxA ?_ | refine Done.ret (.one rA_ .nil) (.sh (.sh .nil)) ?_ rfl)
  all_goals try (exfalso; omega)
  have hB : List.take (c - 0) (List.drop 0 A) = List.replicate c b := by rw [Nat.sub_zero, List.drop_zero, htk]
  have hmin : min (List.take (c - 0) (List.drop 0 A)).length (A.length - c) = min c (m - c) := by rw [hB, hlA, List.length_replicate]
  refine ⟨c + min c (m - c), ⟨by omega, by omega⟩, ⟨_, by exact own_bools (by rw [hB, hlA]; exact key), int_eq (by rw [hmin]; omega), trivial⟩, by omega⟩
 ·have ec : c = m := by omega
  subst ec
  repeat' (first | (refine Two.mk ?_ ?_ <;> intro _) | refine goA ?_ | (guard_target =~ IsG; first | refine psA ?_ | refine gdA ?_) | refine nxA ?_ | refine Done.ret (.one rA_ .nil) (.sh (.sh .nil)) ?_ rfl)
  all_goals try (exfalso; omega)
  rw [← hA]; simp
end Go.Proofs.YtmgmpnhlehonmaaGreat
