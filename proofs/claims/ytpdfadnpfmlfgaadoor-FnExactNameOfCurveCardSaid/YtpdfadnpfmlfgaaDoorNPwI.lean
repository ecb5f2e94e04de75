/- Lists of branches within bounds: the program and its reference make the same list. No condition. -/
import Derived.Test.YtpdfadnpfmlfgaaDoorNPvR
import Derived.Sort.Grow
import Derived.Sort.Row
import Derived.Deep.Draws
import Derived.Laws.CopyRow
import Derived.Laws.IdiomCopy
import Derived.Test.YtpdfadnpfmlfgaaDoorNPvA
import Derived.Test.YtpdfadnpfmlfgaaDoorNPwX
import Derived.Test.YtpdfadnpfmlfgaaDoorNPvX
import Derived.Laws.BytesString
import Derived.Laws.Cells
import Derived.Test.YtpdfadnpfmlfgaaDoorNSpA
import Derived.Lib.ItoaNum
set_option linter.unusedVariables false
set_option linter.unusedSimpArgs false
namespace Go.Pv
open Go.RowKit
abbrev iv (l : List Int) : List Value := l.map (.int .i64)
inductive Pool (w : World) : List (Value × List Int) → List Nat → Prop
  | nil : Pool w [] []
  | cons {u r L1 τ L2} : Row w u 1 (iv r) L1 → Pool w τ L2 → Pool w ((u, r) :: τ) (L1 ++ L2)
theorem Row.one {w : World} {v : Value} {sz : Nat} {us : List Value} {L : List Nat} (h : Row w v sz us L) : v.oneCell' = true := by
  rcases h with ⟨rfl, _⟩ | ⟨g, o, n, cap, cur, e, rfl, _⟩ <;> rfl
theorem Pool.one {w : World} : ∀ {τ : List (Value × List Int)} {L : List Nat}, Pool w τ L → ∀ q ∈ τ, q.1.oneCell' = true
  | _, _, .nil, q, h => by simp at h
  | _, _, .cons h1 h2, q, h => by
    rcases List.mem_cons.1 h with rfl | h
    · exact h1.one
    · exact h2.one q h
theorem rds_ints {F : Nat → Prop} {w : World} : ∀ (r : List Int) (k : Nat) (ρ : Rho) (us : List Value) (L : List Nat), RDs F w (ints r) k ρ us L ↔ us = iv r ∧ L = []
  | [], k, ρ, us, L => by simp [RDs]
  | x :: r, k, ρ, us, L => by
    simp only [List.map_cons, RDs, RD]
    constructor
    · rintro ⟨u, us', L1, L2, rfl, rfl, ⟨rfl, _, rfl⟩, h⟩
      obtain ⟨rfl, rfl⟩ := (rds_ints r _ _ _ _).1 h
      exact ⟨rfl, rfl⟩
    · rintro ⟨rfl, rfl⟩
      exact ⟨_, _, [], [], rfl, rfl, ⟨rfl, rfl, rfl⟩, (rds_ints r _ _ _ _).2 ⟨rfl, rfl⟩⟩
section
variable {P : Program} {n : NN} {st : Nat → AV} {nx : Nat} {Q : Exit → (Nat → AV) → Nat → Prop}
end
end Go.Pv
namespace Go.Pv
open Go.RowKit
theorem Pool.sh {w : World} : ∀ {τ : List (Value × List Int)} {L : List Nat}, Pool w τ L → (∀ g ∈ L, g < w.heap.size) → ∀ q ∈ τ, ShRow (fun g => g < w.heap.size) w q.1 1 (iv q.2)
  | _, _, .nil, _, q, hq => by simp at hq
  | _, _, .cons h1 h2, hL, q, hq => by
    rcases List.mem_cons.1 hq with rfl | hq
    · exact h1.shRow fun g hg => hL g (by simp [hg])
    · exact h2.sh (fun g hg => hL g (by simp [hg])) q hq
end Go.Pv
namespace Go.Pv
open Go.RowKit
section
variable {P : Program} {n : NN} {nid : Nat} {st : Nat → AV} {f : Fr} {X : Nat → Prop} {a : Act} {w : World} {ρ : Nat → Rho} {L : Nat → List Nat} {M : List Nat}
inductive DstAt (st : Nat → AV) : Operand → Nat → Nat → List D → Nat → Nat → List Nat → Prop
  | root {t id cs} : st t = .own id (.sl true 1 cs) → DstAt st (.tmp t) t id cs 0 cs.length [t]
  | als {t x id cs} : st t = .als x id [] → st x = .own id (.sl true 1 cs) → DstAt st (.tmp t) x id cs 0 cs.length [t, x]
  | sub {t x id lo n0 cs} : st t = .sub x id [] 1 lo n0 → st x = .own id (.sl true 1 cs) → DstAt st (.tmp t) x id cs lo n0 [t, x]
theorem DstAt.agree {st' : Nat → AV} {x : Operand} {xr id lo n0 : Nat} {cs : List D} {rd : List Nat} (h : DstAt st x xr id cs lo n0 rd) (hs : ∀ s ∈ rd, st' s = st s) : DstAt st' x xr id cs lo n0 rd := by
  cases h with
  | root h => exact .root ((hs _ (by simp)).trans h)
  | als h1 h2 => exact .als ((hs _ (by simp)).trans h1) ((hs _ (by simp)).trans h2)
  | sub h1 h2 => exact .sub ((hs _ (by simp)).trans h1) ((hs _ (by simp)).trans h2)
end
end Go.Pv
namespace Go.Pv
open Go.RowKit
structure RV where
  v : Value
  r : List Int
  one : v.oneCell' = true
abbrev RV.pr (q : RV) : Value × List Int := (q.v, q.r)
section
variable {P : Program} {n : NN} {nid nx : Nat} {st : Nat → AV} {Q : Exit → (Nat → AV) → Nat → Prop} {f : Fr} {X : Nat → Prop} {a : Act} {w : World} {ρ : Nat → Rho} {L : Nat → List Nat} {M : List Nat}
end
end Go.Pv
namespace Go.Pv
open Go.RowKit
section
variable {P : Program} {n : NN} {nid nx : Nat} {st : Nat → AV} {f : Fr} {X : Nat → Prop} {a : Act} {w : World} {ρ : Nat → Rho} {L : Nat → List Nat}
class NilTy (P : Program) (T : TypeId) : Prop where
  out : ∃ e i z, P.underlying T = some (.slice e) ∧ P.info? e = some i ∧ i.zero = some z ∧ z.cells = #[.slice none 0 0]
theorem NilTy.of {T e : TypeId} {z : Value} (hu : P.underlying T = some (.slice e)) (hi : (P.info? e).map (·.zero) = some (some z)) (hz : z.cells = #[.slice none 0 0]) : NilTy P T := by
  obtain ⟨i, h1, h2⟩ := Option.map_eq_some_iff.1 hi
  exact ⟨e, i, z, hu, h1, h2, hz⟩
end
end Go.Pv
namespace Go.Pv
open Go.RowKit
class ByRowTy (P : Program) (T : TypeId) : Prop where
  out : ∃ e, P.underlying T = some (.slice e) ∧ P.underlying e = some (.int .u8)
def byD (b : List UInt8) : List D := b.map fun u => .lit (.int .u8 (u.toNat : Int))
section
variable {P : Program} {n : NN} {nid : Nat} {st : Nat → AV} {d : Nat} {T T' S : TypeId} {x y z : Operand} {b c : List UInt8} {ty : TypeId} {pos : String} {aft : Array Edge} {g : Option (Nat × Bool)}
theorem str_join (b c : List UInt8) : (⟨b.toArray⟩ : ByteArray) ++ ⟨c.toArray⟩ = ⟨(b ++ c).toArray⟩ := by
  ext1; simp
theorem step_str_add (hx : Lit st x (strV b)) (hy : Lit st y (strV c)) (hl : b.length + c.length ≤ 9223372036854775807) (hd : n d = true) : Step P n ⟨some d, .binOp .add T x y T', ty, pos, aft, g⟩ nid st (rdOf x ++ rdOf y) [(d, .c (.lit (strV (b ++ c))))] := by
  have hm : IntKind.i64.max = 9223372036854775807 := rfl
  have hno : ¬ ((((⟨b.toArray⟩ : ByteArray).size + (⟨c.toArray⟩ : ByteArray).size : Nat) : Int) > IntKind.i64.max) := by
    rw [hm, str_size, str_size]; omega
  have := step_pure (P := P) (n := n) (nid := nid) (st := st) (o := ⟨some d, .binOp .add T x y T', ty, pos, aft, g⟩) (d := d) (u := strV (b ++ c)) [(x, strV b), (y, strV c)] rfl hd rfl (by simpa using ⟨hx, hy⟩) (fun ev w hev => by
    have e1 := hev (x, strV b) (by simp)
    have e2 := hev (y, strV c) (by simp)
    simp only at e1 e2
    simp only [execOp, e1, e2]
    simp [binOp, Op.stringOp, eqGuard]
    rw [if_neg (by simpa using hno)]
    simp [str_join])
  simpa using this
theorem fold_bytes (b : List UInt8) : ∀ s : ByteArray, (b.map fun u => (u.toNat : Int)).foldl (fun r n => r.push (UInt8.ofNat n.toNat)) s = s ++ ⟨b.toArray⟩ := by
  induction b with
  | nil => intro s; ext1; simp
  | cons u b ih =>
    intro s
    rw [List.map_cons, List.foldl_cons, ih]
    ext1
    simp
theorem byD_vals {F : Nat → Prop} {w : World} : ∀ (b : List UInt8) (k : Nat) (r : Rho) (us : List Value), RDs F w (byD b) k r us [] → us = (b.map fun u => (u.toNat : Int)).map (Value.int .u8)
  | [], k, r, us, h => by simp only [byD, List.map_nil, RDs] at h; simpa using h.1
  | u :: b, k, r, us, h => by
    simp only [byD, List.map_cons, RDs] at h
    obtain ⟨v, vs, L1, L2, rfl, e, h1, h2⟩ := h
    have e2 : L1 = [] ∧ L2 = [] := by simpa using e.symm
    rw [e2.2] at h2
    simp only [RD] at h1
    rw [h1.1, byD_vals b _ _ _ h2]
    rfl
theorem step_bytes_str [hS : ByRowTy P S] [hT : StrTy P T] {rd : List Nat} {cs : List D} (hv : View st x rd 1 cs) (hc : D.erases cs = byD b) (hd : n d = true) : Step P n ⟨some d, .convert S T x, ty, pos, aft, g⟩ nid st rd [(d, .c (.lit (strV b)))] := by
  intro X st' hs hX f a w hn hrep K Q hK
  obtain ⟨ρ, L, h⟩ := hrep
  subst hn
  obtain ⟨us, r, ⟨a0, n0, c0, e0, h1, h2, h3, h4⟩, h5⟩ := (hv.agree hs).read h
  obtain ⟨e, t1, t2⟩ := hS.out
  rw [hc] at h5
  have hus := byD_vals b 0 r us h5
  refine wp_of_value (u := strV b) (w' := w) ?_ (h.done_lit hK hd rfl)
  simp only [execOp, e0]
  rw [Sem.run_bind, run_convert_bytes_string w S T e a0 n0 c0 t1 t2 hT.out]
  have hlen : n0 = us.length := by omega
  cases a0 with
  | none =>
    have : us = [] := by
      cases us with
      | nil => rfl
      | cons u us => obtain ⟨b1, hb1, _⟩ := h4 (by simp); cases hb1
    rw [this] at hus
    have hb : b = [] := by cases b with | nil => rfl | cons u b => simp at hus
    subst hb
    simp [Conv.bytesToString]
    try rfl
  | some ad =>
    have hl : (loadCells ad n0).run P w = .ok ((b.map fun u => (u.toNat : Int)).map (Value.int .u8)).toArray w := by
      rw [← hus, hlen]
      refine run_loadCells_list w ad us fun j v hj => ?_
      by_cases hne : us = []
      · rw [hne] at hj; simp at hj
      · obtain ⟨b1, hb1, _, hb3⟩ := h4 hne
        cases hb1
        exact hb3 j v hj
    rw [run_bytesToString w ad n0 c0 _ hl, fold_bytes]
    simp
    try rfl
end
end Go.Pv
namespace Go.Proofs.YtpdfadnpfmlfgaaDoor
set_option maxHeartbeats 20000000
open Go.Pv
open Go.ChangeShapes Go.WideShapes Go.ChangeAt Go.RowKit
attribute [local irreducible] RunU WpA Step CallG CallNG Done DoneN
instance fnOk29 : FnOk Tryd.prog 29 := ⟨_, Tryd.func29, rfl, by decide⟩
instance byRowTy67 : ByRowTy Tryd.prog 67 := ⟨_, Tryd.underlying67, Tryd.underlying5⟩
theorem dec_small {m : Nat} (h : m < 10) : Lib.decDigits m = [UInt8.ofNat (48 + m)] := by rw [Lib.decDigits, dif_pos h]
theorem dec_big {m : Nat} (h : ¬ m < 10) : Lib.decDigits m = Lib.decDigits (m / 10) ++ [UInt8.ofNat (48 + m % 10)] := by
  conv => lhs; rw [Lib.decDigits]
  rw [dif_neg h]
theorem dec_len : ∀ (k m : Nat), m < 10 ^ (k + 1) → (Lib.decDigits m).length ≤ k + 1
  | 0, m, h => by rw [dec_small (by simpa using h)]; simp
  | k + 1, m, h => by
    by_cases h1 : m < 10
    · rw [dec_small h1]; simp
    · rw [dec_big h1, List.length_append]
      have := dec_len k (m / 10) (by
        rw [Nat.pow_succ] at h
        exact Nat.div_lt_of_lt_mul (by omega))
      simp
      omega
theorem dg_cell {m : Nat} (h : m < 10) {x : Int} (hx : x = IntKind.u8.wrap (48 + (m : Int))) : D.lit (.int .u8 x) = .lit (.int .u8 ((UInt8.ofNat (48 + m)).toNat : Int)) := by
  subst hx
  have e : IntKind.u8.wrap (48 + (m : Int)) = 48 + (m : Int) := by
    have e1 : IntKind.u8.bits = 8 := rfl
    have e2 : IntKind.u8.signed = false := rfl
    simp only [IntKind.wrap, e1, e2]
    simp
    omega
  rw [e]
  have : (UInt8.ofNat (48 + m)).toNat = 48 + m := by
    rw [UInt8.toNat_ofNat']
    omega
  rw [this]
  congr 2
theorem one_byD {m : Nat} (h : m < 10) : D.erases [D.lit (.int .u8 (IntKind.u8.wrap (48 + (m : Int))))] = byD [UInt8.ofNat (48 + m)] := by
  rw [byD]
  simp only [D.erases, D.erase, List.map_cons, List.map_nil]
  rw [dg_cell h rfl]
theorem one_byD2 (m : Nat) : D.erases [D.lit (.int .u8 (IntKind.u8.wrap (48 + (m : Int) % 10)))] = byD [UInt8.ofNat (48 + m % 10)] := by
  rw [show (m : Int) % 10 = ((m % 10 : Nat) : Int) by omega]
  exact one_byD (by omega)
theorem l01Dec_c (m : Nat) (hm : m ≤ 1000000000000000000) : CallA Tryd.prog 29 [aI (m : Int)] [rS (Lib.decDigits m)] [] := by
  induction m using Nat.strongRecOn with
  | _ m ih =>
    by_cases h : m < 10
    · rw [dec_small h]
      clear ih
      refine callA_of _ Tryd.func29 rfl Tryd.ntmps29 (by first | exact ⟨rfl, rfl⟩ | (simp only [List.all_cons, List.all_nil, V.solid, D.solid, D.solids, solids_ints, solids_bools, solids_LL, Bool.and_self, Bool.and_true, and_self]; done) | simp [V.solid, D.solid, D.solids, solids_lits, solids_ints, solids_bools, solids_LL]) ?_
      repeat' (first | (guard_target =~ WpA _ _ _ _ _ _; first | refine WpA.seq ?_ | refine WpA.drawU ?_ | refine WpA.regionU ?_ | refine WpA.block ?_ | refine WpA.ret ?_ | refine WpA.skip ?_ | refine WpA.exit ?_ | refine WpA.cond_true rfl ?_ | refine WpA.cond_false rfl ?_ | refine WpA.cond_ntrue rfl ?_ | refine WpA.cond_dec rfl (fun _ => ?_) (fun _ => ?_) | refine WpA.cond_not rfl (fun _ => ?_) (fun _ => ?_) | refine WpA.cond rfl (fun _ => ?_) (fun _ => ?_)) | (guard_target =~ RunU _ _ _ _ [] _ _ _ _; first | refine RunU.nilL ?_ | refine RunU.nilD (by kernel_rfl) ?_) | (guard_target =~ RunU _ _ _ _ (Oper.mk _ _ _ _ _ none :: _) _ _ _ _; first | refine RunU.cons (step_convert rfl rfl) ?_ | refine RunU.cons (step_bytes_str (b := [UInt8.ofNat (48 + m)]) (.root rfl) (one_byD h) rfl) ?_) | (guard_target =~ RunU _ _ _ _ (Oper.mk _ _ _ _ _ none :: _) _ _ _ _; refine RunU.cons step_any ?_) | (guard_target =~ RunU _ _ _ _ (Oper.mk _ _ _ _ _ (some _) :: _) _ _ _ _; first | refine RunU.pass rfl rfl rfl rfl ?_ | refine RunU.pass_undef rfl rfl rfl ?_ | refine RunU.doit rfl rfl (step_convert rfl rfl) ?_ | refine RunU.doit rfl rfl (step_bytes_str (b := [UInt8.ofNat (48 + m)]) (.root rfl) (one_byD h) rfl) ?_ | refine RunU.doit rfl rfl step_any ?_ | ((fail_if_success (refine RunU.doit (rd := []) (up := []) rfl rfl ?_ ?_)); first | refine RunU.guard_dec rfl rfl (fun _ => ?_) (fun _ => ?_) | refine RunU.guard_not rfl rfl (fun _ => ?_) (fun _ => ?_) | refine RunU.guard rfl rfl (fun _ => ?_) (fun _ => ?_))) | ((fail_if_success (guard_target =~ @Eq _ _ _)); (fail_if_success (guard_target =~ @Exists _ _)); first | (guard_target =~ Then _ _ _ _ _; refine Then.next ?_) | (guard_target =~ InBlock _ _ _ _ _; refine InBlock.next ?_) | refine Done.ret (.one (by first | exact .c rfl | exact .own rfl | exact .als rfl rfl | exact .ptr rfl rfl | exact .part rfl rfl rfl) .nil) (.sh .nil) ?_ rfl))
      all_goals first | rfl | (exfalso; omega)
    · have hI := ih (m / 10) (by omega) (by omega)
      have hl := dec_len 18 (m / 10) (by omega)
      rw [dec_big h]
      clear ih
      refine callA_of _ Tryd.func29 rfl Tryd.ntmps29 (by first | exact ⟨rfl, rfl⟩ | (simp only [List.all_cons, List.all_nil, V.solid, D.solid, D.solids, solids_ints, solids_bools, solids_LL, Bool.and_self, Bool.and_true, and_self]; done) | simp [V.solid, D.solid, D.solids, solids_lits, solids_ints, solids_bools, solids_LL]) ?_
      rw [show ((m / 10 : Nat) : Int) = (m : Int) / 10 by omega] at hI
      repeat' (first | (guard_target =~ WpA _ _ _ _ _ _; first | refine WpA.seq ?_ | refine WpA.drawU ?_ | refine WpA.regionU ?_ | refine WpA.block ?_ | refine WpA.ret ?_ | refine WpA.skip ?_ | refine WpA.exit ?_ | refine WpA.cond_true rfl ?_ | refine WpA.cond_false rfl ?_ | refine WpA.cond_ntrue rfl ?_ | refine WpA.cond_dec rfl (fun _ => ?_) (fun _ => ?_) | refine WpA.cond_not rfl (fun _ => ?_) (fun _ => ?_) | refine WpA.cond rfl (fun _ => ?_) (fun _ => ?_)) | (guard_target =~ RunU _ _ _ _ [] _ _ _ _; first | refine RunU.nilL ?_ | refine RunU.nilD (by kernel_rfl) ?_) | (guard_target =~ RunU _ _ _ _ (Oper.mk _ (Op.call ⟨Callee.value _, _, _⟩) _ _ _ none :: _) _ _ _ _; first | refine RunU.cons (step_call (hI) (.sh .nil) (.sh shows_any .nil) rfl) ?_) | (guard_target =~ RunU _ _ _ _ (Oper.mk _ _ _ _ _ none :: _) _ _ _ _; first | refine RunU.cons (step_convert rfl rfl) ?_ | refine RunU.cons (step_bytes_str (b := [UInt8.ofNat (48 + m % 10)]) (.root rfl) (one_byD2 m) rfl) ?_ | refine RunU.cons (step_str_add rfl rfl (by simp only [List.length_cons, List.length_nil]; omega) rfl) ?_) | (guard_target =~ RunU _ _ _ _ (Oper.mk _ _ _ _ _ none :: _) _ _ _ _; refine RunU.cons step_any ?_) | (guard_target =~ RunU _ _ _ _ (Oper.mk _ _ _ _ _ (some _) :: _) _ _ _ _; first | refine RunU.pass rfl rfl rfl rfl ?_ | refine RunU.pass_undef rfl rfl rfl ?_ | (guard_target =~ RunU _ _ _ _ (Oper.mk _ (Op.call ⟨Callee.value _, _, _⟩) _ _ _ _ :: _) _ _ _ _; first | refine RunU.doit rfl rfl (step_call (hI) (.sh .nil) (.sh shows_any .nil) rfl) ?_) | refine RunU.doit rfl rfl (step_convert rfl rfl) ?_ | refine RunU.doit rfl rfl (step_bytes_str (b := [UInt8.ofNat (48 + m % 10)]) (.root rfl) (one_byD2 m) rfl) ?_ | refine RunU.doit rfl rfl (step_str_add rfl rfl (by simp only [List.length_cons, List.length_nil]; omega) rfl) ?_ | refine RunU.doit rfl rfl step_any ?_ | ((fail_if_success (refine RunU.doit (rd := []) (up := []) rfl rfl ?_ ?_)); first | refine RunU.guard_dec rfl rfl (fun _ => ?_) (fun _ => ?_) | refine RunU.guard_not rfl rfl (fun _ => ?_) (fun _ => ?_) | refine RunU.guard rfl rfl (fun _ => ?_) (fun _ => ?_))) | ((fail_if_success (guard_target =~ @Eq _ _ _)); (fail_if_success (guard_target =~ @Exists _ _)); first | (guard_target =~ Then _ _ _ _ _; refine Then.next ?_) | (guard_target =~ InBlock _ _ _ _ _; refine InBlock.next ?_) | refine Done.ret (.one (by first | exact .c rfl | exact .own rfl | exact .als rfl rfl | exact .ptr rfl rfl | exact .part rfl rfl rfl) .nil) (.sh .nil) ?_ rfl))
      all_goals first | rfl | (exfalso; omega)
end Go.Proofs.YtpdfadnpfmlfgaaDoor
namespace Go.Proofs.YtpdfadnpfmlfgaaDoor
set_option maxHeartbeats 20000000
open Go.Pv
open Go.ChangeShapes Go.WideShapes Go.ChangeAt Go.RowKit
attribute [local irreducible] RunU WpA Step CallG CallNG Done DoneN
instance fnOk40 : FnOk Tryd.prog 40 := ⟨_, Tryd.func40, rfl, by decide⟩
instance fnOk21 : FnOk Tryd.prog 21 := ⟨_, Tryd.func21, rfl, by decide⟩
abbrev aBr (l : List Int) : Arg := .sh (.agg [.sl false 1 (ints l)])
theorem eqBranch_c (a b : List Int) (ha : a.length ≤ 9223372036854775807) (hb : b.length ≤ 9223372036854775807) : CallA Tryd.prog 40 [aBr a, aBr b] [rB (decide (a = b))] [] := by
  refine callA_of _ Tryd.func40 rfl Tryd.ntmps40 (by first | exact ⟨rfl, rfl⟩ | (simp only [List.all_cons, List.all_nil, V.solid, D.solid, D.solids, solids_ints, solids_bools, solids_LL, Bool.and_self, Bool.and_true, and_self]; done) | simp [V.solid, D.solid, D.solids, solids_lits, solids_ints, solids_bools, solids_LL]) ?_
  repeat' (first | (guard_target =~ WpA _ _ _ _ _ _; first | refine WpA.seq ?_ | refine WpA.drawU ?_ | refine WpA.regionU ?_ | refine WpA.block ?_ | refine WpA.ret ?_ | refine WpA.skip ?_ | refine WpA.exit ?_ | refine WpA.cond_true rfl ?_ | refine WpA.cond_false rfl ?_ | refine WpA.cond_ntrue rfl ?_ | refine WpA.cond_dec rfl (fun _ => ?_) (fun _ => ?_) | refine WpA.cond_not rfl (fun _ => ?_) (fun _ => ?_) | refine WpA.cond rfl (fun _ => ?_) (fun _ => ?_)) | (guard_target =~ RunU _ _ _ _ [] _ _ _ _; first | refine RunU.nilL ?_ | refine RunU.nilD (by kernel_rfl) ?_) | (guard_target =~ RunU _ _ _ _ (Oper.mk _ (Op.call ⟨Callee.value _, _, _⟩) _ _ _ none :: _) _ _ _ _; first | refine RunU.cons (step_call (eqInt64S_c a b ha hb) (.sh (.sh .nil)) (.sh shows_any (.sh shows_any .nil)) rfl) ?_) | (guard_target =~ RunU _ _ _ _ (Oper.mk _ _ _ _ _ none :: _) _ _ _ _; refine RunU.cons step_any ?_) | (guard_target =~ RunU _ _ _ _ (Oper.mk _ _ _ _ _ (some _) :: _) _ _ _ _; first | refine RunU.pass rfl rfl rfl rfl ?_ | refine RunU.pass_undef rfl rfl rfl ?_ | (guard_target =~ RunU _ _ _ _ (Oper.mk _ (Op.call ⟨Callee.value _, _, _⟩) _ _ _ _ :: _) _ _ _ _; first | refine RunU.doit rfl rfl (step_call (eqInt64S_c a b ha hb) (.sh (.sh .nil)) (.sh shows_any (.sh shows_any .nil)) rfl) ?_) | refine RunU.doit rfl rfl step_any ?_ | ((fail_if_success (refine RunU.doit (rd := []) (up := []) rfl rfl ?_ ?_)); first | refine RunU.guard_dec rfl rfl (fun _ => ?_) (fun _ => ?_) | refine RunU.guard_not rfl rfl (fun _ => ?_) (fun _ => ?_) | refine RunU.guard rfl rfl (fun _ => ?_) (fun _ => ?_))) | refine Then.next ?_ | refine InBlock.next ?_ | refine Done.ret (.one (by first | exact .c rfl | exact .own rfl | exact .als rfl rfl | exact .ptr rfl rfl | exact .part rfl rfl rfl) .nil) (.sh (.sh .nil)) ?_ rfl)
  all_goals simp_all
end Go.Proofs.YtpdfadnpfmlfgaaDoor
namespace Go.Proofs.YtpdfadnpfmlfgaaDoor
set_option maxHeartbeats 20000000
open Go.Pv
open Go.ChangeShapes Go.WideShapes Go.ChangeAt Go.RowKit
attribute [local irreducible] RunU WpA Step CallG CallNG Done DoneN
instance fnOk42 : FnOk Tryd.prog 42 := ⟨_, Tryd.func42, rfl, by decide⟩
instance fnOk70 : FnOk Tryd.prog 70 := ⟨_, Tryd.func70, rfl, by decide⟩
instance fnOk80 : FnOk Tryd.prog 80 := ⟨_, Tryd.func80, rfl, by decide⟩
theorem loop_slots3 {α β : Type} {P : Program} {n : NN} {st : Nat → AV} {c : Code} {nx : Nat} {Q : Exit → (Nat → AV) → Nat → Prop} (slots : α → β → List (Nat × AV)) (C : α → β → Prop) (μ : α → β → Nat) (i0 : α) (k0 : β) (hC : C i0 k0) (h0 : Has st (slots i0 k0))
    (round : ∀ i k s nx, C i k → WpA P n c (puts s (slots i k)) nx (Then (fun s' _ => ∃ i' k', C i' k' ∧ Has s' (slots i' k') ∧ μ i' k' < μ i k) Q)) : WpA P n (.loop c) st nx Q :=
  WpA.loop_slots (ι := α × β) (fun p => slots p.1 p.2) (fun p => C p.1 p.2) (fun p => μ p.1 p.2) (i0, k0) hC h0 fun p s k hp =>
    (round p.1 p.2 s k hp).mono fun e s' k' q => by
      cases e with
      | normal => obtain ⟨i', j', q1, q2, q3⟩ := q; exact ⟨(i', j'), q1, q2, q3⟩
      | _ => exact q
theorem gcd_step {x y g : Nat} (h : Nat.gcd x y = g) : Nat.gcd y (x % y) = g := by
  rw [← h, Nat.gcd_comm y (x % y), ← Nat.gcd_rec, Nat.gcd_comm]
theorem abs_c (a : Int) (h : -4611686018427387904 ≤ a ∧ a ≤ 4611686018427387904) : CallA Tryd.prog 80 [aI a] [rI (a.natAbs : Int)] [] := by
  refine callA_of _ Tryd.func80 rfl Tryd.ntmps80 (by first | exact ⟨rfl, rfl⟩ | (simp only [List.all_cons, List.all_nil, V.solid, D.solid, D.solids, solids_ints, solids_bools, solids_LL, Bool.and_self, Bool.and_true, and_self]; done) | simp [V.solid, D.solid, D.solids, solids_lits, solids_ints, solids_bools, solids_LL]) ?_
  repeat' (first | (guard_target =~ WpA _ _ _ _ _ _; first | refine WpA.seq ?_ | refine WpA.drawU ?_ | refine WpA.regionU ?_ | refine WpA.block ?_ | refine WpA.ret ?_ | refine WpA.skip ?_ | refine WpA.exit ?_ | refine WpA.cond_true rfl ?_ | refine WpA.cond_false rfl ?_ | refine WpA.cond_ntrue rfl ?_ | refine WpA.cond_dec rfl (fun _ => ?_) (fun _ => ?_) | refine WpA.cond_not rfl (fun _ => ?_) (fun _ => ?_) | refine WpA.cond rfl (fun _ => ?_) (fun _ => ?_)) | (guard_target =~ RunU _ _ _ _ [] _ _ _ _; first | refine RunU.nilL ?_ | refine RunU.nilD (by kernel_rfl) ?_) | (guard_target =~ RunU _ _ _ _ (Oper.mk _ _ _ _ _ none :: _) _ _ _ _; refine RunU.cons step_any ?_) | (guard_target =~ RunU _ _ _ _ (Oper.mk _ _ _ _ _ (some _) :: _) _ _ _ _; first | refine RunU.pass rfl rfl rfl rfl ?_ | refine RunU.pass_undef rfl rfl rfl ?_ | refine RunU.doit rfl rfl step_any ?_ | ((fail_if_success (refine RunU.doit (rd := []) (up := []) rfl rfl ?_ ?_)); first | refine RunU.guard_dec rfl rfl (fun _ => ?_) (fun _ => ?_) | refine RunU.guard_not rfl rfl (fun _ => ?_) (fun _ => ?_) | refine RunU.guard rfl rfl (fun _ => ?_) (fun _ => ?_))) | refine Then.next ?_ | refine InBlock.next ?_ | refine Done.ret (.one (by first | exact .c rfl | exact .own rfl | exact .als rfl rfl | exact .ptr rfl rfl | exact .part rfl rfl rfl) .nil) (.sh .nil) ?_ rfl)
  case refine_1 h1 => rw [show ((a.natAbs : Nat) : Int) = -a by omega]
  case refine_2 h1 => rw [show ((a.natAbs : Nat) : Int) = a by omega]
theorem gcd_c (a b : Int) (ha : -4611686018427387904 ≤ a ∧ a ≤ 4611686018427387904) (hb : -4611686018427387904 ≤ b ∧ b ≤ 4611686018427387904) : CallA Tryd.prog 42 [aI a, aI b] [rI (Int.gcd a b : Int)] [] := by
  refine callA_of _ Tryd.func42 rfl Tryd.ntmps42 (by first | exact ⟨rfl, rfl⟩ | (simp only [List.all_cons, List.all_nil, V.solid, D.solid, D.solids, solids_ints, solids_bools, solids_LL, Bool.and_self, Bool.and_true, and_self]; done) | simp [V.solid, D.solid, D.solids, solids_lits, solids_ints, solids_bools, solids_LL]) ?_
  repeat' (first | (guard_target =~ WpA _ _ _ _ _ _; first | refine WpA.seq ?_ | refine WpA.drawU ?_ | refine WpA.regionU ?_ | refine WpA.block ?_ | refine WpA.ret ?_ | refine WpA.skip ?_ | refine WpA.exit ?_ | refine WpA.cond_true rfl ?_ | refine WpA.cond_false rfl ?_ | refine WpA.cond_ntrue rfl ?_ | refine WpA.cond_dec rfl (fun _ => ?_) (fun _ => ?_) | refine WpA.cond_not rfl (fun _ => ?_) (fun _ => ?_) | refine WpA.cond rfl (fun _ => ?_) (fun _ => ?_)) | (guard_target =~ RunU _ _ _ _ [] _ _ _ _; first | refine RunU.nilL ?_ | refine RunU.nilD (by kernel_rfl) ?_) | (guard_target =~ RunU _ _ _ _ (Oper.mk _ _ _ _ _ none :: _) _ _ _ _; refine RunU.cons step_any ?_) | (guard_target =~ RunU _ _ _ _ (Oper.mk _ _ _ _ _ (some _) :: _) _ _ _ _; first | refine RunU.pass rfl rfl rfl rfl ?_ | refine RunU.pass_undef rfl rfl rfl ?_ | refine RunU.doit rfl rfl step_any ?_ | ((fail_if_success (refine RunU.doit (rd := []) (up := []) rfl rfl ?_ ?_)); first | refine RunU.guard_dec rfl rfl (fun _ => ?_) (fun _ => ?_) | refine RunU.guard_not rfl rfl (fun _ => ?_) (fun _ => ?_) | refine RunU.guard rfl rfl (fun _ => ?_) (fun _ => ?_))) | refine Then.next ?_ | refine InBlock.next ?_ | refine Done.ret (.one (by first | exact .c rfl | exact .own rfl | exact .als rfl rfl | exact .ptr rfl rfl | exact .part rfl rfl rfl) .nil) (.sh (.sh .nil)) ?_ rfl)
  all_goals refine loop_slots3 (fun (x y : Nat) => [(0, .c (.lit (.int .i64 (x : Int)))), (1, .c (.lit (.int .i64 (y : Int))))]) (fun x y => Nat.gcd x y = Int.gcd a b ∧ x ≤ 4611686018427387904 ∧ y ≤ 4611686018427387904) (fun _ y => y) a.natAbs b.natAbs ⟨rfl, by omega, by omega⟩ ⟨int_eq (by omega), int_eq (by omega), trivial⟩ ?_
  all_goals intro x y s nx hj
  all_goals obtain ⟨hg, hx, hy⟩ := hj
  · repeat' (first | (guard_target =~ WpA _ _ _ _ _ _; first | refine WpA.seq ?_ | refine WpA.drawU ?_ | refine WpA.regionU ?_ | refine WpA.block ?_ | refine WpA.ret ?_ | refine WpA.skip ?_ | refine WpA.exit ?_ | refine WpA.cond_true rfl ?_ | refine WpA.cond_false rfl ?_ | refine WpA.cond_ntrue rfl ?_ | refine WpA.cond_dec rfl (fun _ => ?_) (fun _ => ?_) | refine WpA.cond_not rfl (fun _ => ?_) (fun _ => ?_) | refine WpA.cond rfl (fun _ => ?_) (fun _ => ?_)) | (guard_target =~ RunU _ _ _ _ [] _ _ _ _; first | refine RunU.nilL ?_ | refine RunU.nilD (by kernel_rfl) ?_) | (guard_target =~ RunU _ _ _ _ (Oper.mk _ _ _ _ _ none :: _) _ _ _ _; refine RunU.cons step_any ?_) | (guard_target =~ RunU _ _ _ _ (Oper.mk _ _ _ _ _ (some _) :: _) _ _ _ _; first | refine RunU.pass rfl rfl rfl rfl ?_ | refine RunU.pass_undef rfl rfl rfl ?_ | refine RunU.doit rfl rfl step_any ?_ | ((fail_if_success (refine RunU.doit (rd := []) (up := []) rfl rfl ?_ ?_)); first | refine RunU.guard_dec rfl rfl (fun _ => ?_) (fun _ => ?_) | refine RunU.guard_not rfl rfl (fun _ => ?_) (fun _ => ?_) | refine RunU.guard rfl rfl (fun _ => ?_) (fun _ => ?_))) | refine Then.next ?_ | refine InBlock.next ?_ | refine Done.ret (.one (by first | exact .c rfl | exact .own rfl | exact .als rfl rfl | exact .ptr rfl rfl | exact .part rfl rfl rfl) .nil) (.sh (.sh .nil)) ?_ rfl)
    case refine_1 h3 => exact ⟨y, x % y, ⟨gcd_step hg, hy, by have := Nat.mod_lt x (show 0 < y by omega); omega⟩, ⟨rfl, int_eq (Int.natCast_emod x y).symm, trivial⟩, Nat.mod_lt x (by omega)⟩
    case refine_2 h3 => rw [← hg, show y = 0 by omega, Nat.gcd_zero_right]
  · repeat' (first | (guard_target =~ WpA _ _ _ _ _ _; first | refine WpA.seq ?_ | refine WpA.drawU ?_ | refine WpA.regionU ?_ | refine WpA.block ?_ | refine WpA.ret ?_ | refine WpA.skip ?_ | refine WpA.exit ?_ | refine WpA.cond_true rfl ?_ | refine WpA.cond_false rfl ?_ | refine WpA.cond_ntrue rfl ?_ | refine WpA.cond_dec rfl (fun _ => ?_) (fun _ => ?_) | refine WpA.cond_not rfl (fun _ => ?_) (fun _ => ?_) | refine WpA.cond rfl (fun _ => ?_) (fun _ => ?_)) | (guard_target =~ RunU _ _ _ _ [] _ _ _ _; first | refine RunU.nilL ?_ | refine RunU.nilD (by kernel_rfl) ?_) | (guard_target =~ RunU _ _ _ _ (Oper.mk _ _ _ _ _ none :: _) _ _ _ _; refine RunU.cons step_any ?_) | (guard_target =~ RunU _ _ _ _ (Oper.mk _ _ _ _ _ (some _) :: _) _ _ _ _; first | refine RunU.pass rfl rfl rfl rfl ?_ | refine RunU.pass_undef rfl rfl rfl ?_ | refine RunU.doit rfl rfl step_any ?_ | ((fail_if_success (refine RunU.doit (rd := []) (up := []) rfl rfl ?_ ?_)); first | refine RunU.guard_dec rfl rfl (fun _ => ?_) (fun _ => ?_) | refine RunU.guard_not rfl rfl (fun _ => ?_) (fun _ => ?_) | refine RunU.guard rfl rfl (fun _ => ?_) (fun _ => ?_))) | refine Then.next ?_ | refine InBlock.next ?_ | refine Done.ret (.one (by first | exact .c rfl | exact .own rfl | exact .als rfl rfl | exact .ptr rfl rfl | exact .part rfl rfl rfl) .nil) (.sh (.sh .nil)) ?_ rfl)
    case refine_1 h3 => exact ⟨y, x % y, ⟨gcd_step hg, hy, by have := Nat.mod_lt x (show 0 < y by omega); omega⟩, ⟨rfl, int_eq (Int.natCast_emod x y).symm, trivial⟩, Nat.mod_lt x (by omega)⟩
    case refine_2 h3 => rw [← hg, show y = 0 by omega, Nat.gcd_zero_right]
  · repeat' (first | (guard_target =~ WpA _ _ _ _ _ _; first | refine WpA.seq ?_ | refine WpA.drawU ?_ | refine WpA.regionU ?_ | refine WpA.block ?_ | refine WpA.ret ?_ | refine WpA.skip ?_ | refine WpA.exit ?_ | refine WpA.cond_true rfl ?_ | refine WpA.cond_false rfl ?_ | refine WpA.cond_ntrue rfl ?_ | refine WpA.cond_dec rfl (fun _ => ?_) (fun _ => ?_) | refine WpA.cond_not rfl (fun _ => ?_) (fun _ => ?_) | refine WpA.cond rfl (fun _ => ?_) (fun _ => ?_)) | (guard_target =~ RunU _ _ _ _ [] _ _ _ _; first | refine RunU.nilL ?_ | refine RunU.nilD (by kernel_rfl) ?_) | (guard_target =~ RunU _ _ _ _ (Oper.mk _ _ _ _ _ none :: _) _ _ _ _; refine RunU.cons step_any ?_) | (guard_target =~ RunU _ _ _ _ (Oper.mk _ _ _ _ _ (some _) :: _) _ _ _ _; first | refine RunU.pass rfl rfl rfl rfl ?_ | refine RunU.pass_undef rfl rfl rfl ?_ | refine RunU.doit rfl rfl step_any ?_ | ((fail_if_success (refine RunU.doit (rd := []) (up := []) rfl rfl ?_ ?_)); first | refine RunU.guard_dec rfl rfl (fun _ => ?_) (fun _ => ?_) | refine RunU.guard_not rfl rfl (fun _ => ?_) (fun _ => ?_) | refine RunU.guard rfl rfl (fun _ => ?_) (fun _ => ?_))) | refine Then.next ?_ | refine InBlock.next ?_ | refine Done.ret (.one (by first | exact .c rfl | exact .own rfl | exact .als rfl rfl | exact .ptr rfl rfl | exact .part rfl rfl rfl) .nil) (.sh (.sh .nil)) ?_ rfl)
    case refine_1 h3 => exact ⟨y, x % y, ⟨gcd_step hg, hy, by have := Nat.mod_lt x (show 0 < y by omega); omega⟩, ⟨rfl, int_eq (Int.natCast_emod x y).symm, trivial⟩, Nat.mod_lt x (by omega)⟩
    case refine_2 h3 => rw [← hg, show y = 0 by omega, Nat.gcd_zero_right]
  · repeat' (first | (guard_target =~ WpA _ _ _ _ _ _; first | refine WpA.seq ?_ | refine WpA.drawU ?_ | refine WpA.regionU ?_ | refine WpA.block ?_ | refine WpA.ret ?_ | refine WpA.skip ?_ | refine WpA.exit ?_ | refine WpA.cond_true rfl ?_ | refine WpA.cond_false rfl ?_ | refine WpA.cond_ntrue rfl ?_ | refine WpA.cond_dec rfl (fun _ => ?_) (fun _ => ?_) | refine WpA.cond_not rfl (fun _ => ?_) (fun _ => ?_) | refine WpA.cond rfl (fun _ => ?_) (fun _ => ?_)) | (guard_target =~ RunU _ _ _ _ [] _ _ _ _; first | refine RunU.nilL ?_ | refine RunU.nilD (by kernel_rfl) ?_) | (guard_target =~ RunU _ _ _ _ (Oper.mk _ _ _ _ _ none :: _) _ _ _ _; refine RunU.cons step_any ?_) | (guard_target =~ RunU _ _ _ _ (Oper.mk _ _ _ _ _ (some _) :: _) _ _ _ _; first | refine RunU.pass rfl rfl rfl rfl ?_ | refine RunU.pass_undef rfl rfl rfl ?_ | refine RunU.doit rfl rfl step_any ?_ | ((fail_if_success (refine RunU.doit (rd := []) (up := []) rfl rfl ?_ ?_)); first | refine RunU.guard_dec rfl rfl (fun _ => ?_) (fun _ => ?_) | refine RunU.guard_not rfl rfl (fun _ => ?_) (fun _ => ?_) | refine RunU.guard rfl rfl (fun _ => ?_) (fun _ => ?_))) | refine Then.next ?_ | refine InBlock.next ?_ | refine Done.ret (.one (by first | exact .c rfl | exact .own rfl | exact .als rfl rfl | exact .ptr rfl rfl | exact .part rfl rfl rfl) .nil) (.sh (.sh .nil)) ?_ rfl)
    case refine_1 h3 => exact ⟨y, x % y, ⟨gcd_step hg, hy, by have := Nat.mod_lt x (show 0 < y by omega); omega⟩, ⟨rfl, int_eq (Int.natCast_emod x y).symm, trivial⟩, Nat.mod_lt x (by omega)⟩
    case refine_2 h3 => rw [← hg, show y = 0 by omega, Nat.gcd_zero_right]
theorem divisor_c (a b : Int) (ha : -4611686018427387904 ≤ a ∧ a ≤ 4611686018427387904) (hb : -4611686018427387904 ≤ b ∧ b ≤ 4611686018427387904) : CallA Tryd.prog 70 [aI a, aI b] [rI (Int.gcd a b : Int)] [] := by
  refine callA_of _ Tryd.func70 rfl Tryd.ntmps70 (by first | exact ⟨rfl, rfl⟩ | (simp only [List.all_cons, List.all_nil, V.solid, D.solid, D.solids, solids_ints, solids_bools, solids_LL, Bool.and_self, Bool.and_true, and_self]; done) | simp [V.solid, D.solid, D.solids, solids_lits, solids_ints, solids_bools, solids_LL]) ?_
  repeat' (first | (guard_target =~ WpA _ _ _ _ _ _; first | refine WpA.seq ?_ | refine WpA.drawU ?_ | refine WpA.regionU ?_ | refine WpA.block ?_ | refine WpA.ret ?_ | refine WpA.skip ?_ | refine WpA.exit ?_ | refine WpA.cond_true rfl ?_ | refine WpA.cond_false rfl ?_ | refine WpA.cond_ntrue rfl ?_ | refine WpA.cond_dec rfl (fun _ => ?_) (fun _ => ?_) | refine WpA.cond_not rfl (fun _ => ?_) (fun _ => ?_) | refine WpA.cond rfl (fun _ => ?_) (fun _ => ?_)) | (guard_target =~ RunU _ _ _ _ [] _ _ _ _; first | refine RunU.nilL ?_ | refine RunU.nilD (by kernel_rfl) ?_) | (guard_target =~ RunU _ _ _ _ (Oper.mk _ (Op.call ⟨Callee.value _, _, _⟩) _ _ _ none :: _) _ _ _ _; first | refine RunU.cons (step_call (abs_c a ha) (.sh .nil) (.sh shows_any .nil) rfl) ?_ | refine RunU.cons (step_call (abs_c b hb) (.sh .nil) (.sh shows_any .nil) rfl) ?_) | (guard_target =~ RunU _ _ _ _ (Oper.mk _ _ _ _ _ none :: _) _ _ _ _; refine RunU.cons step_any ?_) | (guard_target =~ RunU _ _ _ _ (Oper.mk _ _ _ _ _ (some _) :: _) _ _ _ _; first | refine RunU.pass rfl rfl rfl rfl ?_ | refine RunU.pass_undef rfl rfl rfl ?_ | (guard_target =~ RunU _ _ _ _ (Oper.mk _ (Op.call ⟨Callee.value _, _, _⟩) _ _ _ _ :: _) _ _ _ _; first | refine RunU.doit rfl rfl (step_call (abs_c a ha) (.sh .nil) (.sh shows_any .nil) rfl) ?_ | refine RunU.doit rfl rfl (step_call (abs_c b hb) (.sh .nil) (.sh shows_any .nil) rfl) ?_) | refine RunU.doit rfl rfl step_any ?_ | ((fail_if_success (refine RunU.doit (rd := []) (up := []) rfl rfl ?_ ?_)); first | refine RunU.guard_dec rfl rfl (fun _ => ?_) (fun _ => ?_) | refine RunU.guard_not rfl rfl (fun _ => ?_) (fun _ => ?_) | refine RunU.guard rfl rfl (fun _ => ?_) (fun _ => ?_))) | refine Then.next ?_ | refine InBlock.next ?_ | refine Done.ret (.one (by first | exact .c rfl | exact .own rfl | exact .als rfl rfl | exact .ptr rfl rfl | exact .part rfl rfl rfl) .nil) (.sh (.sh .nil)) ?_ rfl)
  refine loop_slots3 (fun (x y : Nat) => [(0, .c (.lit (.int .i64 (x : Int)))), (1, .c (.lit (.int .i64 (y : Int))))]) (fun x y => Nat.gcd x y = Int.gcd a b ∧ x ≤ 4611686018427387904 ∧ y ≤ 4611686018427387904) (fun _ y => y) a.natAbs b.natAbs ⟨rfl, by omega, by omega⟩ ⟨rfl, rfl, trivial⟩ ?_
  intro x y s nx hj
  obtain ⟨hg, hx, hy⟩ := hj
  repeat' (first | (guard_target =~ WpA _ _ _ _ _ _; first | refine WpA.seq ?_ | refine WpA.drawU ?_ | refine WpA.regionU ?_ | refine WpA.block ?_ | refine WpA.ret ?_ | refine WpA.skip ?_ | refine WpA.exit ?_ | refine WpA.cond_true rfl ?_ | refine WpA.cond_false rfl ?_ | refine WpA.cond_ntrue rfl ?_ | refine WpA.cond_dec rfl (fun _ => ?_) (fun _ => ?_) | refine WpA.cond_not rfl (fun _ => ?_) (fun _ => ?_) | refine WpA.cond rfl (fun _ => ?_) (fun _ => ?_)) | (guard_target =~ RunU _ _ _ _ [] _ _ _ _; first | refine RunU.nilL ?_ | refine RunU.nilD (by kernel_rfl) ?_) | (guard_target =~ RunU _ _ _ _ (Oper.mk _ _ _ _ _ none :: _) _ _ _ _; refine RunU.cons step_any ?_) | (guard_target =~ RunU _ _ _ _ (Oper.mk _ _ _ _ _ (some _) :: _) _ _ _ _; first | refine RunU.pass rfl rfl rfl rfl ?_ | refine RunU.pass_undef rfl rfl rfl ?_ | refine RunU.doit rfl rfl step_any ?_ | ((fail_if_success (refine RunU.doit (rd := []) (up := []) rfl rfl ?_ ?_)); first | refine RunU.guard_dec rfl rfl (fun _ => ?_) (fun _ => ?_) | refine RunU.guard_not rfl rfl (fun _ => ?_) (fun _ => ?_) | refine RunU.guard rfl rfl (fun _ => ?_) (fun _ => ?_))) | refine Then.next ?_ | refine InBlock.next ?_ | refine Done.ret (.one (by first | exact .c rfl | exact .own rfl | exact .als rfl rfl | exact .ptr rfl rfl | exact .part rfl rfl rfl) .nil) (.sh (.sh .nil)) ?_ rfl)
  case refine_1 h3 => exact ⟨y, x % y, ⟨gcd_step hg, hy, by have := Nat.mod_lt x (show 0 < y by omega); omega⟩, ⟨rfl, int_eq (Int.natCast_emod x y).symm, trivial⟩, Nat.mod_lt x (by omega)⟩
  case refine_2 h3 => rw [← hg, show y = 0 by omega, Nat.gcd_zero_right]
end Go.Proofs.YtpdfadnpfmlfgaaDoor
namespace Go.Proofs.YtpdfadnpfmlfgaaDoor
set_option maxHeartbeats 20000000
open Go.Pv
open Go.ChangeShapes Go.WideShapes Go.ChangeAt Go.RowKit
attribute [local irreducible] RunU WpA Step CallG CallNG Done DoneN
instance fnOk60 : FnOk Tryd.prog 60 := ⟨_, Tryd.func60, rfl, by decide⟩
def divTo (l : List Int) : Nat → Int
  | 0 => 0
  | j + 1 => (Int.gcd (divTo l j) (l.getD j 0) : Int)
def divs (l : List Int) : Nat → List Int
  | 0 => []
  | j + 1 => divs l j ++ [divTo l (j + 1)]
theorem divs_len (l : List Int) : ∀ j, (divs l j).length = j
  | 0 => rfl
  | j + 1 => by simp [divs, divs_len l j]
theorem divTo_bound {l : List Int} (h : ∀ i, 0 ≤ l.getD i 0 ∧ l.getD i 0 ≤ 1000000000) : ∀ j, 0 ≤ divTo l j ∧ divTo l j ≤ 1000000000
  | 0 => by simp [divTo]
  | j + 1 => by
    have h1 := divTo_bound h j
    have h2 := h j
    simp only [divTo]
    refine ⟨by omega, ?_⟩
    by_cases h0 : l.getD j 0 = 0
    · rw [h0, Int.gcd_zero_right]; omega
    · have := Int.gcd_le_right (a := divTo l j) (show 0 < l.getD j 0 by omega)
      omega
theorem divisors_c (l : List Int) (hl : l.length ≤ 1000000000) (hb : ∀ i, 0 ≤ l.getD i 0 ∧ l.getD i 0 ≤ 1000000000) : CallA Tryd.prog 60 [aL l] [rL (divs l l.length)] [] := by
  refine callA_of _ Tryd.func60 rfl Tryd.ntmps60 (by first | exact ⟨rfl, rfl⟩ | (simp only [List.all_cons, List.all_nil, V.solid, D.solid, D.solids, solids_ints, solids_bools, solids_LL, Bool.and_self, Bool.and_true, and_self]; done) | simp [V.solid, D.solid, D.solids, solids_lits, solids_ints, solids_bools, solids_LL]) ?_
  repeat' (first | (guard_target =~ WpA _ _ _ _ _ _; first | refine WpA.seq ?_ | refine WpA.drawU ?_ | refine WpA.regionU ?_ | refine WpA.block ?_ | refine WpA.ret ?_ | refine WpA.skip ?_ | refine WpA.exit ?_ | refine WpA.cond_true rfl ?_ | refine WpA.cond_false rfl ?_ | refine WpA.cond_ntrue rfl ?_ | refine WpA.cond_dec rfl (fun _ => ?_) (fun _ => ?_) | refine WpA.cond_not rfl (fun _ => ?_) (fun _ => ?_) | refine WpA.cond rfl (fun _ => ?_) (fun _ => ?_)) | (guard_target =~ RunU _ _ _ _ [] _ _ _ _; first | refine RunU.nilL ?_ | refine RunU.nilD (by kernel_rfl) ?_) | (guard_target =~ RunU _ _ _ _ (Oper.mk _ _ _ _ _ none :: _) _ _ _ _; refine RunU.cons step_any ?_) | (guard_target =~ RunU _ _ _ _ (Oper.mk _ _ _ _ _ (some _) :: _) _ _ _ _; first | refine RunU.pass rfl rfl rfl rfl ?_ | refine RunU.pass_undef rfl rfl rfl ?_ | refine RunU.doit rfl rfl step_any ?_ | ((fail_if_success (refine RunU.doit (rd := []) (up := []) rfl rfl ?_ ?_)); first | refine RunU.guard_dec rfl rfl (fun _ => ?_) (fun _ => ?_) | refine RunU.guard_not rfl rfl (fun _ => ?_) (fun _ => ?_) | refine RunU.guard rfl rfl (fun _ => ?_) (fun _ => ?_))) | refine Then.next ?_ | refine InBlock.next ?_ | refine Done.ret (.one (by first | exact .c rfl | exact .own rfl | exact .als rfl rfl | exact .ptr rfl rfl | exact .part rfl rfl rfl) .nil) (.sh .nil) ?_ rfl)
  refine WpA.loop_slots2 (fun j id => [(8, .c (.sl false 1 (ints l))), (9, .c (.lit (.int .i64 l.length))), (3, .own id (.sl true 1 (ints (divs l j)))), (4, .c (.lit (.int .i64 (divTo l j)))), (10, .c (.lit (.int .i64 (j : Int))))]) (fun j => j ≤ l.length) (fun j => l.length - j) 0 3 (by simp) ⟨rfl, rfl, rfl, rfl, rfl, trivial⟩ ?_
  intro j id s nx hj
  have h1 := divTo_bound hb j
  have h2 := hb (j * 1)
  have h3 := divs_len l j
  repeat' (first | (guard_target =~ WpA _ _ _ _ _ _; first | refine WpA.seq ?_ | refine WpA.drawU ?_ | refine WpA.regionU ?_ | refine WpA.block ?_ | refine WpA.ret ?_ | refine WpA.skip ?_ | refine WpA.exit ?_ | refine WpA.cond_true rfl ?_ | refine WpA.cond_false rfl ?_ | refine WpA.cond_ntrue rfl ?_ | refine WpA.cond_dec rfl (fun _ => ?_) (fun _ => ?_) | refine WpA.cond_not rfl (fun _ => ?_) (fun _ => ?_) | refine WpA.cond rfl (fun _ => ?_) (fun _ => ?_)) | (guard_target =~ RunU _ _ _ _ [] _ _ _ _; first | refine RunU.nilL ?_ | refine RunU.nilD (by kernel_rfl) ?_) | (guard_target =~ RunU _ _ _ _ (Oper.mk _ (Op.call ⟨Callee.value _, _, _⟩) _ _ _ none :: _) _ _ _ _; first | refine RunU.cons (step_call (divisor_c (divTo l j) (l.getD (j * 1) 0) (by omega) (by omega)) (.sh (.sh .nil)) (.sh shows_any (.sh shows_any .nil)) rfl) ?_) | (guard_target =~ RunU _ _ _ _ (Oper.mk _ _ _ _ _ none :: _) _ _ _ _; refine RunU.cons step_any ?_) | (guard_target =~ RunU _ _ _ _ (Oper.mk _ _ _ _ _ (some _) :: _) _ _ _ _; first | refine RunU.pass rfl rfl rfl rfl ?_ | refine RunU.pass_undef rfl rfl rfl ?_ | (guard_target =~ RunU _ _ _ _ (Oper.mk _ (Op.call ⟨Callee.value _, _, _⟩) _ _ _ _ :: _) _ _ _ _; first | refine RunU.doit rfl rfl (step_call (divisor_c (divTo l j) (l.getD (j * 1) 0) (by omega) (by omega)) (.sh (.sh .nil)) (.sh shows_any (.sh shows_any .nil)) rfl) ?_) | refine RunU.doit rfl rfl step_any ?_ | ((fail_if_success (refine RunU.doit (rd := []) (up := []) rfl rfl ?_ ?_)); first | refine RunU.guard_dec rfl rfl (fun _ => ?_) (fun _ => ?_) | refine RunU.guard_not rfl rfl (fun _ => ?_) (fun _ => ?_) | refine RunU.guard rfl rfl (fun _ => ?_) (fun _ => ?_))) | refine Then.next ?_ | refine InBlock.next ?_ | refine Done.ret (.one (by first | exact .c rfl | exact .own rfl | exact .als rfl rfl | exact .ptr rfl rfl | exact .part rfl rfl rfl) .nil) (.sh .nil) ?_ rfl)
  case refine_1 h4 =>
    have e : (((divTo l j).gcd (l.getD (j * 1) 0) : Nat) : Int) = divTo l (j + 1) := by rw [Nat.mul_one]; rfl
    have e2 : divs l j ++ [(((divTo l j).gcd (l.getD (j * 1) 0) : Nat) : Int)] = divs l (j + 1) := by rw [e]; rfl
    exact ⟨j + 1, by omega, ⟨_, rfl, rfl, by exact own_ints e2, int_eq e, int_eq (by omega), trivial⟩, by omega⟩
  case refine_2 h4 =>
    have e : j = l.length := by omega
    subst e
    rfl
end Go.Proofs.YtpdfadnpfmlfgaaDoor
