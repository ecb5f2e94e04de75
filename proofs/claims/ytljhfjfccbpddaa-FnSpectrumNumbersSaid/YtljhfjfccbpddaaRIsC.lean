/- Counts of numbers in ascending order: the binary search in rows, and the program's counter. No condition. -/
import Derived.Test.YtljhfjfccbpddaaRIsB
import Derived.Test.YtljhfjfccbpddaaRSpB
namespace Go.Proofs.Ytljhfjfccbpddaa
set_option maxHeartbeats 20000000
set_option linter.unusedVariables false
set_option linter.unusedSimpArgs false
open Go.Pv
open Go.ChangeShapes Go.WideShapes Go.ChangeAt Go.RowKit
attribute [local irreducible] RunU WpA Step CallG CallNG Done DoneN
instance fnOk58 : FnOk Try.prog 58 := ⟨_, Try.func58, rfl, by decide⟩
instance fnOk59 : FnOk Try.prog 59 := ⟨_, Try.func59, rfl, by decide⟩
instance fnOk36 : FnOk Try.prog 36 := ⟨_, Try.func36, rfl, by decide⟩
instance fnOk61 : FnOk Try.prog 61 := ⟨_, Try.func61, rfl, by decide⟩
def atR (m : Int) : List (List Int) → Nat
  | [] => 0
  | r :: t => if r.getD 0 0 < m then atR m t + 1 else 0
def putR : List (List Int) → Int → Int → List (List Int)
  | [], m, e => [[m, e]]
  | r :: t, m, e => if r.getD 0 0 < m then r :: putR t m e else if r.getD 0 0 = m then r.set 1 (r.getD 1 0 + e) :: t else [m, e] :: r :: t
theorem atR_le (m : Int) : ∀ R, atR m R ≤ R.length
  | [] => Nat.le_refl _
  | r :: t => by
    have := atR_le m t
    simp only [atR, List.length_cons]
    split <;> omega
theorem atR_low (m : Int) : ∀ (R : List (List Int)) (i : Nat), i < atR m R → (R.getD i []).getD 0 0 < m
  | [], i, h => by simp [atR] at h
  | r :: t, i, h => by
    simp only [atR] at h
    split at h
    · rename_i h1
      cases i with
      | zero => simpa using h1
      | succ i => simpa using atR_low m t i (by omega)
    · omega
theorem atR_not (m : Int) : ∀ (R : List (List Int)), atR m R < R.length → ¬ (R.getD (atR m R) []).getD 0 0 < m
  | [], h => by simp at h
  | r :: t, h => by
    by_cases h1 : r.getD 0 0 < m
    · have e : atR m (r :: t) = atR m t + 1 := by rw [atR, if_pos h1]
      rw [e] at h ⊢
      simpa using atR_not m t (by simpa using h)
    · have e : atR m (r :: t) = 0 := by rw [atR, if_neg h1]
      rw [e]
      simpa using h1
theorem putR_has (m e : Int) : ∀ (R : List (List Int)), atR m R < R.length → (R.getD (atR m R) []).getD 0 0 = m → putR R m e = R.set (atR m R) ((R.getD (atR m R) []).set 1 ((R.getD (atR m R) []).getD 1 0 + e))
  | [], h, _ => by simp at h
  | r :: t, h, hm => by
    by_cases h1 : r.getD 0 0 < m
    · have e : atR m (r :: t) = atR m t + 1 := by rw [atR, if_pos h1]
      rw [e] at h hm ⊢
      rw [putR, if_pos h1, putR_has m _ t (by simpa using h) (by simpa using hm)]
      simp
    · have e : atR m (r :: t) = 0 := by rw [atR, if_neg h1]
      rw [e] at h hm ⊢
      simp only [List.getD_cons_zero] at hm
      rw [putR, if_neg h1, if_pos hm]
      simp
theorem putR_new (m e : Int) : ∀ (R : List (List Int)), (atR m R < R.length → ¬ (R.getD (atR m R) []).getD 0 0 = m) → putR R m e = R.take (atR m R) ++ [m, e] :: R.drop (atR m R)
  | [], _ => rfl
  | r :: t, hm => by
    by_cases h1 : r.getD 0 0 < m
    · have e : atR m (r :: t) = atR m t + 1 := by rw [atR, if_pos h1]
      rw [e] at hm ⊢
      rw [putR, if_pos h1, putR_new m _ t (fun h => by simpa using hm (by simpa using h))]
      simp
    · have e : atR m (r :: t) = 0 := by rw [atR, if_neg h1]
      rw [e] at hm ⊢
      have hm := hm (by simp)
      simp only [List.getD_cons_zero] at hm
      rw [putR, if_neg h1, if_neg hm]
      simp
def AscR (R : List (List Int)) : Prop := R.Pairwise fun a b => a.getD 0 0 < b.getD 0 0
def RowsR (R : List (List Int)) (b : Int) : Prop := ∀ r ∈ R, r.length = 2 ∧ -b ≤ r.getD 1 0 ∧ r.getD 1 0 ≤ b
theorem putR_head (m e : Int) : ∀ (R : List (List Int)) (r : List Int), r ∈ putR R m e → r.getD 0 0 = m ∨ ∃ q ∈ R, r.getD 0 0 = q.getD 0 0
  | [], r, h => by
    simp only [putR, List.mem_singleton] at h
    subst h
    exact .inl rfl
  | q :: t, r, h => by
    rw [putR] at h
    split at h
    · rcases List.mem_cons.1 h with rfl | h
      · exact .inr ⟨r, by simp, rfl⟩
      · rcases putR_head m e t r h with h | ⟨p, hp, h⟩
        · exact .inl h
        · exact .inr ⟨p, by simp [hp], h⟩
    · split at h
      · rcases List.mem_cons.1 h with rfl | h
        · refine .inr ⟨q, by simp, ?_⟩
          rw [List.getD_eq_getElem?_getD, List.getElem?_set_ne (by omega), ← List.getD_eq_getElem?_getD]
        · exact .inr ⟨r, by simp [h], rfl⟩
      · rcases List.mem_cons.1 h with rfl | h
        · exact .inl rfl
        · exact .inr ⟨r, h, rfl⟩
theorem putR_asc {m e : Int} : ∀ {R : List (List Int)}, AscR R → AscR (putR R m e)
  | [], _ => by simp [putR, AscR]
  | q :: t, h => by
    have h0 := List.pairwise_cons.1 h
    rw [putR]
    split
    · rename_i h1
      refine List.pairwise_cons.2 ⟨fun r hr => ?_, putR_asc h0.2⟩
      rcases putR_head m e t r hr with h | ⟨p, hp, h⟩
      · rw [h]; exact h1
      · rw [h]; exact h0.1 p hp
    · split
      · refine List.pairwise_cons.2 ⟨fun r hr => ?_, h0.2⟩
        rw [List.getD_eq_getElem?_getD, List.getElem?_set_ne (by omega), ← List.getD_eq_getElem?_getD]
        exact h0.1 r hr
      · rename_i h1 h2
        refine List.pairwise_cons.2 ⟨fun r hr => ?_, h⟩
        simp only [List.getD_cons_zero]
        rcases List.mem_cons.1 hr with rfl | hr
        · omega
        · have := h0.1 r hr
          omega
theorem putR_rows {m e b c : Int} (hb : 0 ≤ b) (he : -c ≤ e ∧ e ≤ c) : ∀ {R : List (List Int)}, RowsR R b → RowsR (putR R m e) (b + c)
  | [], _ => fun r hr => by
    simp only [putR, List.mem_singleton] at hr
    subst hr
    simp
    omega
  | q :: t, h => by
    have hq := h q (by simp)
    have ht : RowsR t b := fun r hr => h r (by simp [hr])
    have up : ∀ r ∈ t, r.length = 2 ∧ -(b + c) ≤ r.getD 1 0 ∧ r.getD 1 0 ≤ b + c := fun r hr => by
      have := ht r hr
      omega
    intro r hr
    rw [putR] at hr
    split at hr
    · rcases List.mem_cons.1 hr with rfl | hr
      · omega
      · exact putR_rows hb he ht r hr
    · split at hr
      · rcases List.mem_cons.1 hr with rfl | hr
        · rw [List.length_set, List.getD_eq_getElem?_getD, List.getElem?_set_self (by omega), Option.getD_some]
          omega
        · exact up r hr
      · rcases List.mem_cons.1 hr with rfl | hr
        · simp
          omega
        · rcases List.mem_cons.1 hr with rfl | hr
          · omega
          · exact up r hr
theorem putR_len (m e : Int) : ∀ (R : List (List Int)), (putR R m e).length ≤ R.length + 1
  | [] => by simp [putR]
  | q :: t => by
    have := putR_len m e t
    rw [putR]
    split
    · simp; omega
    · split <;> simp
theorem RowsR.at {R : List (List Int)} {b : Int} (h : RowsR R b) {i : Nat} (hi : i < R.length) : (R.getD i []).length = 2 ∧ -b ≤ (R.getD i []).getD 1 0 ∧ (R.getD i []).getD 1 0 ≤ b := by
  rw [List.getD_eq_getElem?_getD, List.getElem?_eq_getElem hi, Option.getD_some]
  exact h _ (List.getElem_mem hi)
theorem AscR.lt {R : List (List Int)} (h : AscR R) {i j : Nat} (hij : i < j) (hj : j < R.length) : (R.getD i []).getD 0 0 < (R.getD j []).getD 0 0 := by
  have e : ∀ k (hk : k < R.length), R.getD k [] = R[k] := fun k hk => by rw [List.getD_eq_getElem?_getD, List.getElem?_eq_getElem hk, Option.getD_some]
  rw [e i (by omega), e j hj]
  exact List.pairwise_iff_getElem.1 h i j (by omega) hj hij
theorem atR_iff {m : Int} {R : List (List Int)} (h : AscR R) {i : Nat} (hi : i < R.length) : (R.getD i []).getD 0 0 < m ↔ i < atR m R := by
  constructor
  · intro hm
    refine Decidable.byContradiction fun hn => ?_
    have h1 := atR_not m R (by omega)
    rcases Nat.lt_or_eq_of_le (Nat.le_of_not_lt hn) with h2 | h2
    · have := h.lt h2 hi
      omega
    · rw [h2] at h1
      exact h1 hm
  · exact atR_low m R i
def half (a : Int) : Int := a.fdiv (2 ^ 1)
theorem half_nat {a b : Nat} : half ((a : Int) + (b : Int)) = (((a + b) / 2 : Nat) : Int) := by
  unfold half
  rw [Int.fdiv_eq_ediv_of_nonneg _ (by decide)]
  omega
section
variable {P : Program} {n : NN} {nid : Nat} {st : Nat → AV} {d : Nat} {x y : Operand} {a b : Int} {T T' : TypeId} {ty pos aft g}
theorem step_half (hx : Go.Pv.Lit st x (.int .u64 a)) (hy : Go.Pv.Lit st y (.int .u64 1)) (e : half a = b) (hd : n d = true) : Step P n ⟨some d, .binOp .shr T x y T', ty, pos, aft, g⟩ nid st (rdOf x ++ rdOf y) [(d, .c (.lit (.int .u64 b)))] :=
  step_bin hx hy rfl (fun w => by subst e; simp [eqGuard_int, binOp, Op.shift, half, IntKind.bits]) hd
end
theorem wrap_u64 {a : Int} (h : 0 ≤ a ∧ a ≤ 9223372036854775807) : IntKind.u64.wrap a = a := by
  simp only [IntKind.wrap, IntKind.bits, IntKind.signed]
  simp
  omega
section
variable {P : Program} {n : NN} {nid : Nat} {st : Nat → AV} {d : Nat} {x : Operand} {a : Int} {S T : TypeId} {ty pos aft g}
theorem step_toU {k0 k1 : IntKind} [hT : IntTy P T .u64] [hS : IntTy P S k1] (hx : Go.Pv.Lit st x (.int k0 a)) (h : 0 ≤ a ∧ a ≤ 9223372036854775807) (hd : n d = true) : Step P n ⟨some d, .convert S T x, ty, pos, aft, g⟩ nid st (rdOf x) [(d, .c (.lit (.int .u64 a)))] := by
  have := step_convert (P := P) (n := n) (nid := nid) (S := S) (T := T) (ty := ty) (pos := pos) (aft := aft) (g := g) hx hd
  rwa [wrap_u64 h] at this
end
attribute [local irreducible] half
def cmpJ (a b : Int) : Int := if a < b then -1 else if b < a then 1 else 0
theorem addCmp_c (r : List Int) (m : Int) (hr : 0 < r.length) : CallA Try.prog 59 [aL r, aI m] [rI (cmpJ (r.getD (0 * 1) 0) m)] [] := by
  refine callA_of _ Try.func59 rfl Try.ntmps59 (by first | exact ⟨rfl, rfl⟩ | (simp only [List.all_cons, List.all_nil, V.solid, D.solid, D.solids, solids_ints, solids_bools, solids_LL, Bool.and_self, Bool.and_true, and_self]; done) | simp [V.solid, D.solid, D.solids, solids_lits, solids_ints, solids_bools, solids_LL]) ?_
  repeat' (first | (guard_target =~ WpA _ _ _ _ _ _; first | refine WpA.seq ?_ | refine WpA.drawU ?_ | refine WpA.regionU ?_ | refine WpA.block ?_ | refine WpA.ret ?_ | refine WpA.skip ?_ | refine WpA.exit ?_ | refine WpA.cond_true rfl ?_ | refine WpA.cond_false rfl ?_ | refine WpA.cond_ntrue rfl ?_ | refine WpA.cond_dec rfl (fun _ => ?_) (fun _ => ?_) | refine WpA.cond_not rfl (fun _ => ?_) (fun _ => ?_) | refine WpA.cond rfl (fun _ => ?_) (fun _ => ?_)) | (guard_target =~ RunU _ _ _ _ [] _ _ _ _; first | refine RunU.nilL ?_ | refine RunU.nilD (by kernel_rfl) ?_) | (guard_target =~ RunU _ _ _ _ (Oper.mk _ (Op.call ⟨Callee.value _, _, _⟩) _ _ _ none :: _) _ _ _ _; first | refine RunU.cons (step_call (compared_c _ _) (.sh (.sh .nil)) (.sh shows_any (.sh shows_any .nil)) rfl) ?_) | (guard_target =~ RunU _ _ _ _ (Oper.mk _ _ _ _ _ none :: _) _ _ _ _; refine RunU.cons step_any ?_) | refine Then.next ?_ | refine InBlock.next ?_ | refine Done.ret (.one (by first | exact .c rfl | exact .own rfl | exact .als rfl rfl | exact .ptr rfl rfl | exact .part rfl rfl rfl) .nil) (.sh (.sh .nil)) ?_ rfl)
  rfl
abbrev vZ (x : Int) : AV := .c (.lit (.int .i64 x))
abbrev vNt (x : Nat) : AV := .c (.lit (.int .i64 (x : Int)))
set_option maxRecDepth 100000 in
theorem searchR_c (R : List (List Int)) (m : Int) (k : Nat) (hl : R.length ≤ 1000000) (hk : k ≤ R.length) (hr : ∀ i, i < R.length → (R.getD i []).length = 2) (H : ∀ i, i < R.length → ((R.getD i []).getD 0 0 < m ↔ i < k)) :
    CallA Try.prog 58 [aLL R, aI m, .sh (.one (.fn 59 []))] [rI k, rB (decide (k < R.length ∧ (R.getD k []).getD 0 0 = m))] [] := by
  refine callA_of _ Try.func58 rfl Try.ntmps58 (by first | exact ⟨rfl, rfl⟩ | (simp only [List.all_cons, List.all_nil, V.solid, D.solid, D.solids, solids_ints, solids_bools, solids_LL, Bool.and_self, Bool.and_true, and_self]; done) | simp [V.solid, D.solid, D.solids, solids_lits, solids_ints, solids_bools, solids_LL]) ?_
  repeat' (first | (guard_target =~ WpA _ _ _ _ _ _; first | refine WpA.seq ?_ | refine WpA.drawU ?_ | refine WpA.regionU ?_ | refine WpA.block ?_ | refine WpA.ret ?_ | refine WpA.skip ?_ | refine WpA.exit ?_ | refine WpA.cond_true rfl ?_ | refine WpA.cond_false rfl ?_ | refine WpA.cond_ntrue rfl ?_ | refine WpA.cond_dec rfl (fun _ => ?_) (fun _ => ?_) | refine WpA.cond_not rfl (fun _ => ?_) (fun _ => ?_) | refine WpA.cond rfl (fun _ => ?_) (fun _ => ?_)) | (guard_target =~ RunU _ _ _ _ [] _ _ _ _; first | refine RunU.nilL ?_ | refine RunU.nilD (by kernel_rfl) ?_) | (guard_target =~ RunU _ _ _ _ (Oper.mk _ _ _ _ _ none :: _) _ _ _ _; refine RunU.cons step_any ?_) | (guard_target =~ RunU _ _ _ _ (Oper.mk _ _ _ _ _ (some _) :: _) _ _ _ _; first | refine RunU.pass rfl rfl rfl rfl ?_ | refine RunU.pass_undef rfl rfl rfl ?_ | refine RunU.doit rfl rfl step_any ?_ | ((fail_if_success (refine RunU.doit (rd := []) (up := []) rfl rfl ?_ ?_)); first | refine RunU.guard_dec rfl rfl (fun _ => ?_) (fun _ => ?_) | refine RunU.guard_not rfl rfl (fun _ => ?_) (fun _ => ?_) | refine RunU.guard rfl rfl (fun _ => ?_) (fun _ => ?_))) | refine Then.next ?_ | refine InBlock.next ?_ | refine Done.ret (.one (by first | exact .c rfl | exact .own rfl | exact .als rfl rfl | exact .ptr rfl rfl | exact .part rfl rfl rfl) (.one (by first | exact .c rfl | exact .own rfl | exact .als rfl rfl | exact .ptr rfl rfl | exact .part rfl rfl rfl) .nil)) (.sh (.sh (.sh .nil))) ?_ rfl)
  refine WpA.loop_slots (ι := Nat × Nat) (fun p => [(0, .c (.sl false 1 (LLs R))), (1, vZ m), (2, .c (.fn 59 [])), (8, vNt R.length), (9, vNt p.1), (10, vNt p.2)]) (fun p => p.1 ≤ k ∧ k ≤ p.2 ∧ p.2 ≤ R.length) (fun p => p.2 - p.1) (0, R.length) ⟨by simp, hk, by simp⟩ ⟨rfl, rfl, rfl, rfl, rfl, rfl, trivial⟩ ?_
  rintro ⟨i, j⟩ s nx ⟨h1, h2, h3⟩
  simp only at h1 h2 h3
  dsimp only
  by_cases hij : i < j
  · have hh := half_nat (a := i) (b := j)
    obtain ⟨q, hq⟩ : ∃ q, q = (i + j) / 2 := ⟨_, rfl⟩
    rw [← hq] at hh
    have hqi : i ≤ q ∧ q < j := by omega
    clear hq
    have hrq := hr (q * 1) (by omega)
    have hH := H (q * 1) (by omega)
    have hC := addCmp_c (R.getD (q * 1) []) m (by omega)
    clear H hr
    by_cases hlt : q < k
    · have e : cmpJ ((R.getD (q * 1) []).getD (0 * 1) 0) m = -1 := by
        have : (R.getD (q * 1) []).getD (0 * 1) 0 < m := hH.2 (by omega)
        rw [cmpJ, if_pos this]
      rw [e] at hC
      clear hH e
      repeat' (first | (guard_target =~ WpA _ _ _ _ _ _; first | refine WpA.seq ?_ | refine WpA.drawU ?_ | refine WpA.regionU ?_ | refine WpA.block ?_ | refine WpA.ret ?_ | refine WpA.skip ?_ | refine WpA.exit ?_ | refine WpA.cond_true rfl ?_ | refine WpA.cond_false rfl ?_ | refine WpA.cond_ntrue rfl ?_ | refine WpA.cond_dec rfl (fun _ => ?_) (fun _ => ?_) | refine WpA.cond_not rfl (fun _ => ?_) (fun _ => ?_) | refine WpA.cond rfl (fun _ => ?_) (fun _ => ?_)) | (guard_target =~ RunU _ _ _ _ [] _ _ _ _; first | refine RunU.nilL ?_ | refine RunU.nilD (by kernel_rfl) ?_) | (guard_target =~ RunU _ _ _ _ (Oper.mk _ (Op.call ⟨Callee.value _, _, _⟩) _ _ _ none :: _) _ _ _ _; first | refine RunU.cons (step_call_clo (hC) (by exact rfl) (by exact rfl) (.sh (.sh .nil)) (.sh shows_any (.sh shows_any .nil)) rfl) ?_) | (guard_target =~ RunU _ _ _ _ (Oper.mk _ _ _ _ _ none :: _) _ _ _ _; first | refine RunU.cons (step_toU rfl (by omega) rfl) ?_ | refine RunU.cons (step_half rfl rfl hh rfl) ?_) | (guard_target =~ RunU _ _ _ _ (Oper.mk _ _ _ _ _ none :: _) _ _ _ _; refine RunU.cons step_any ?_) | (guard_target =~ RunU _ _ _ _ (Oper.mk _ _ _ _ _ (some _) :: _) _ _ _ _; first | refine RunU.pass rfl rfl rfl rfl ?_ | refine RunU.pass_undef rfl rfl rfl ?_ | (guard_target =~ RunU _ _ _ _ (Oper.mk _ (Op.call ⟨Callee.value _, _, _⟩) _ _ _ _ :: _) _ _ _ _; first | refine RunU.doit rfl rfl (step_call_clo (hC) (by exact rfl) (by exact rfl) (.sh (.sh .nil)) (.sh shows_any (.sh shows_any .nil)) rfl) ?_) | refine RunU.doit rfl rfl step_any ?_ | ((fail_if_success (refine RunU.doit (rd := []) (up := []) rfl rfl ?_ ?_)); first | refine RunU.guard_dec rfl rfl (fun _ => ?_) (fun _ => ?_) | refine RunU.guard_not rfl rfl (fun _ => ?_) (fun _ => ?_) | refine RunU.guard rfl rfl (fun _ => ?_) (fun _ => ?_))) | refine Then.next ?_ | refine InBlock.next ?_ | refine Done.ret (.one (by first | exact .c rfl | exact .own rfl | exact .als rfl rfl | exact .ptr rfl rfl | exact .part rfl rfl rfl) (.one (by first | exact .c rfl | exact .own rfl | exact .als rfl rfl | exact .ptr rfl rfl | exact .part rfl rfl rfl) .nil)) (.sh (.sh (.sh .nil))) ?_ rfl)
      all_goals try (exfalso; omega)
      exact ⟨(q + 1, j), ⟨by simp only; omega, by simp only; omega, by simp only; omega⟩, ⟨rfl, rfl, rfl, rfl, int_eq (by simp), rfl, trivial⟩, by simp only; omega⟩
    · have e : 0 ≤ cmpJ ((R.getD (q * 1) []).getD (0 * 1) 0) m := by
        have : ¬ (R.getD (q * 1) []).getD (0 * 1) 0 < m := fun h => hlt (by have := hH.1 h; omega)
        rw [cmpJ, if_neg this]
        split <;> omega
      clear hH
      generalize cmpJ ((R.getD (q * 1) []).getD (0 * 1) 0) m = cc at *
      repeat' (first | (guard_target =~ WpA _ _ _ _ _ _; first | refine WpA.seq ?_ | refine WpA.drawU ?_ | refine WpA.regionU ?_ | refine WpA.block ?_ | refine WpA.ret ?_ | refine WpA.skip ?_ | refine WpA.exit ?_ | refine WpA.cond_true rfl ?_ | refine WpA.cond_false rfl ?_ | refine WpA.cond_ntrue rfl ?_ | refine WpA.cond_dec rfl (fun _ => ?_) (fun _ => ?_) | refine WpA.cond_not rfl (fun _ => ?_) (fun _ => ?_) | refine WpA.cond rfl (fun _ => ?_) (fun _ => ?_)) | (guard_target =~ RunU _ _ _ _ [] _ _ _ _; first | refine RunU.nilL ?_ | refine RunU.nilD (by kernel_rfl) ?_) | (guard_target =~ RunU _ _ _ _ (Oper.mk _ (Op.call ⟨Callee.value _, _, _⟩) _ _ _ none :: _) _ _ _ _; first | refine RunU.cons (step_call_clo (hC) (by exact rfl) (by exact rfl) (.sh (.sh .nil)) (.sh shows_any (.sh shows_any .nil)) rfl) ?_) | (guard_target =~ RunU _ _ _ _ (Oper.mk _ _ _ _ _ none :: _) _ _ _ _; first | refine RunU.cons (step_toU rfl (by omega) rfl) ?_ | refine RunU.cons (step_half rfl rfl hh rfl) ?_) | (guard_target =~ RunU _ _ _ _ (Oper.mk _ _ _ _ _ none :: _) _ _ _ _; refine RunU.cons step_any ?_) | (guard_target =~ RunU _ _ _ _ (Oper.mk _ _ _ _ _ (some _) :: _) _ _ _ _; first | refine RunU.pass rfl rfl rfl rfl ?_ | refine RunU.pass_undef rfl rfl rfl ?_ | (guard_target =~ RunU _ _ _ _ (Oper.mk _ (Op.call ⟨Callee.value _, _, _⟩) _ _ _ _ :: _) _ _ _ _; first | refine RunU.doit rfl rfl (step_call_clo (hC) (by exact rfl) (by exact rfl) (.sh (.sh .nil)) (.sh shows_any (.sh shows_any .nil)) rfl) ?_) | refine RunU.doit rfl rfl step_any ?_ | ((fail_if_success (refine RunU.doit (rd := []) (up := []) rfl rfl ?_ ?_)); first | refine RunU.guard_dec rfl rfl (fun _ => ?_) (fun _ => ?_) | refine RunU.guard_not rfl rfl (fun _ => ?_) (fun _ => ?_) | refine RunU.guard rfl rfl (fun _ => ?_) (fun _ => ?_))) | refine Then.next ?_ | refine InBlock.next ?_ | refine Done.ret (.one (by first | exact .c rfl | exact .own rfl | exact .als rfl rfl | exact .ptr rfl rfl | exact .part rfl rfl rfl) (.one (by first | exact .c rfl | exact .own rfl | exact .als rfl rfl | exact .ptr rfl rfl | exact .part rfl rfl rfl) .nil)) (.sh (.sh (.sh .nil))) ?_ rfl)
      all_goals try (exfalso; omega)
      exact ⟨(i, q), ⟨by simp only; omega, by simp only; omega, by simp only; omega⟩, ⟨rfl, rfl, rfl, rfl, rfl, int_eq (by simp), trivial⟩, by simp only; omega⟩
  · have e1 : i = k := by omega
    have e2 : j = k := by omega
    rw [e1, e2]
    clear h1 h2 h3 hij e1 e2
    by_cases hkl : k < R.length
    · have hrk := hr (k * 1) (by omega)
      have hHk := H (k * 1) (by omega)
      have hC := addCmp_c (R.getD (k * 1) []) m (by omega)
      rw [Nat.mul_one] at hrk hHk hC
      have hn : ¬ (R.getD k []).getD 0 0 < m := fun h => by have := hHk.1 h; omega
      clear H hr hHk
      by_cases hm : (R.getD k []).getD 0 0 = m
      · have e : cmpJ ((R.getD k []).getD (0 * 1) 0) m = 0 := by
          have : ¬ m < (R.getD k []).getD (0 * 1) 0 := by rw [Nat.zero_mul, hm]; omega
          rw [cmpJ, if_neg (by simpa using hn), if_neg this]
        rw [e] at hC
        rw [← Nat.mul_one k] at hC
        rw [show (decide (k < R.length ∧ (R.getD k []).getD 0 0 = m)) = true from decide_eq_true ⟨hkl, hm⟩]
        clear hm hn e
        repeat' (first | (guard_target =~ WpA _ _ _ _ _ _; first | refine WpA.seq ?_ | refine WpA.drawU ?_ | refine WpA.regionU ?_ | refine WpA.block ?_ | refine WpA.ret ?_ | refine WpA.skip ?_ | refine WpA.exit ?_ | refine WpA.cond_true rfl ?_ | refine WpA.cond_false rfl ?_ | refine WpA.cond_ntrue rfl ?_ | refine WpA.cond_dec rfl (fun _ => ?_) (fun _ => ?_) | refine WpA.cond_not rfl (fun _ => ?_) (fun _ => ?_) | refine WpA.cond rfl (fun _ => ?_) (fun _ => ?_)) | (guard_target =~ RunU _ _ _ _ [] _ _ _ _; first | refine RunU.nilL ?_ | refine RunU.nilD (by kernel_rfl) ?_) | (guard_target =~ RunU _ _ _ _ (Oper.mk _ (Op.call ⟨Callee.value _, _, _⟩) _ _ _ none :: _) _ _ _ _; first | refine RunU.cons (step_call_clo (hC) (by exact rfl) (by exact rfl) (.sh (.sh .nil)) (.sh shows_any (.sh shows_any .nil)) rfl) ?_) | (guard_target =~ RunU _ _ _ _ (Oper.mk _ _ _ _ _ none :: _) _ _ _ _; refine RunU.cons step_any ?_) | (guard_target =~ RunU _ _ _ _ (Oper.mk _ _ _ _ _ (some _) :: _) _ _ _ _; first | refine RunU.pass rfl rfl rfl rfl ?_ | refine RunU.pass_undef rfl rfl rfl ?_ | (guard_target =~ RunU _ _ _ _ (Oper.mk _ (Op.call ⟨Callee.value _, _, _⟩) _ _ _ _ :: _) _ _ _ _; first | refine RunU.doit rfl rfl (step_call_clo (hC) (by exact rfl) (by exact rfl) (.sh (.sh .nil)) (.sh shows_any (.sh shows_any .nil)) rfl) ?_) | refine RunU.doit rfl rfl step_any ?_ | ((fail_if_success (refine RunU.doit (rd := []) (up := []) rfl rfl ?_ ?_)); first | refine RunU.guard_dec rfl rfl (fun _ => ?_) (fun _ => ?_) | refine RunU.guard_not rfl rfl (fun _ => ?_) (fun _ => ?_) | refine RunU.guard rfl rfl (fun _ => ?_) (fun _ => ?_))) | refine Then.next ?_ | refine InBlock.next ?_ | refine Done.ret (.one (by first | exact .c rfl | exact .own rfl | exact .als rfl rfl | exact .ptr rfl rfl | exact .part rfl rfl rfl) (.one (by first | exact .c rfl | exact .own rfl | exact .als rfl rfl | exact .ptr rfl rfl | exact .part rfl rfl rfl) .nil)) (.sh (.sh (.sh .nil))) ?_ rfl)
        all_goals first | rfl | (exfalso; omega) | simp_all
      · have e : ¬ cmpJ ((R.getD k []).getD (0 * 1) 0) m = 0 := by
          have : m < (R.getD k []).getD (0 * 1) 0 := by rw [Nat.zero_mul]; omega
          rw [cmpJ, if_neg (by simpa using hn), if_pos this]
          omega
        generalize cmpJ ((R.getD k []).getD (0 * 1) 0) m = cc at *
        rw [← Nat.mul_one k] at hC
        rw [show (decide (k < R.length ∧ (R.getD k []).getD 0 0 = m)) = false from decide_eq_false (fun h => hm h.2)]
        clear hm hn
        repeat' (first | (guard_target =~ WpA _ _ _ _ _ _; first | refine WpA.seq ?_ | refine WpA.drawU ?_ | refine WpA.regionU ?_ | refine WpA.block ?_ | refine WpA.ret ?_ | refine WpA.skip ?_ | refine WpA.exit ?_ | refine WpA.cond_true rfl ?_ | refine WpA.cond_false rfl ?_ | refine WpA.cond_ntrue rfl ?_ | refine WpA.cond_dec rfl (fun _ => ?_) (fun _ => ?_) | refine WpA.cond_not rfl (fun _ => ?_) (fun _ => ?_) | refine WpA.cond rfl (fun _ => ?_) (fun _ => ?_)) | (guard_target =~ RunU _ _ _ _ [] _ _ _ _; first | refine RunU.nilL ?_ | refine RunU.nilD (by kernel_rfl) ?_) | (guard_target =~ RunU _ _ _ _ (Oper.mk _ (Op.call ⟨Callee.value _, _, _⟩) _ _ _ none :: _) _ _ _ _; first | refine RunU.cons (step_call_clo (hC) (by exact rfl) (by exact rfl) (.sh (.sh .nil)) (.sh shows_any (.sh shows_any .nil)) rfl) ?_) | (guard_target =~ RunU _ _ _ _ (Oper.mk _ _ _ _ _ none :: _) _ _ _ _; refine RunU.cons step_any ?_) | (guard_target =~ RunU _ _ _ _ (Oper.mk _ _ _ _ _ (some _) :: _) _ _ _ _; first | refine RunU.pass rfl rfl rfl rfl ?_ | refine RunU.pass_undef rfl rfl rfl ?_ | (guard_target =~ RunU _ _ _ _ (Oper.mk _ (Op.call ⟨Callee.value _, _, _⟩) _ _ _ _ :: _) _ _ _ _; first | refine RunU.doit rfl rfl (step_call_clo (hC) (by exact rfl) (by exact rfl) (.sh (.sh .nil)) (.sh shows_any (.sh shows_any .nil)) rfl) ?_) | refine RunU.doit rfl rfl step_any ?_ | ((fail_if_success (refine RunU.doit (rd := []) (up := []) rfl rfl ?_ ?_)); first | refine RunU.guard_dec rfl rfl (fun _ => ?_) (fun _ => ?_) | refine RunU.guard_not rfl rfl (fun _ => ?_) (fun _ => ?_) | refine RunU.guard rfl rfl (fun _ => ?_) (fun _ => ?_))) | refine Then.next ?_ | refine InBlock.next ?_ | refine Done.ret (.one (by first | exact .c rfl | exact .own rfl | exact .als rfl rfl | exact .ptr rfl rfl | exact .part rfl rfl rfl) (.one (by first | exact .c rfl | exact .own rfl | exact .als rfl rfl | exact .ptr rfl rfl | exact .part rfl rfl rfl) .nil)) (.sh (.sh (.sh .nil))) ?_ rfl)
        all_goals first | rfl | (exfalso; omega) | simp_all
    · rw [show (decide (k < R.length ∧ (R.getD k []).getD 0 0 = m)) = false from decide_eq_false (fun h => hkl h.1)]
      clear H hr
      repeat' (first | (guard_target =~ WpA _ _ _ _ _ _; first | refine WpA.seq ?_ | refine WpA.drawU ?_ | refine WpA.regionU ?_ | refine WpA.block ?_ | refine WpA.ret ?_ | refine WpA.skip ?_ | refine WpA.exit ?_ | refine WpA.cond_true rfl ?_ | refine WpA.cond_false rfl ?_ | refine WpA.cond_ntrue rfl ?_ | refine WpA.cond_dec rfl (fun _ => ?_) (fun _ => ?_) | refine WpA.cond_not rfl (fun _ => ?_) (fun _ => ?_) | refine WpA.cond rfl (fun _ => ?_) (fun _ => ?_)) | (guard_target =~ RunU _ _ _ _ [] _ _ _ _; first | refine RunU.nilL ?_ | refine RunU.nilD (by kernel_rfl) ?_) | (guard_target =~ RunU _ _ _ _ (Oper.mk _ _ _ _ _ none :: _) _ _ _ _; refine RunU.cons step_any ?_) | (guard_target =~ RunU _ _ _ _ (Oper.mk _ _ _ _ _ (some _) :: _) _ _ _ _; first | refine RunU.pass rfl rfl rfl rfl ?_ | refine RunU.pass_undef rfl rfl rfl ?_ | refine RunU.doit rfl rfl step_any ?_ | ((fail_if_success (refine RunU.doit (rd := []) (up := []) rfl rfl ?_ ?_)); first | refine RunU.guard_dec rfl rfl (fun _ => ?_) (fun _ => ?_) | refine RunU.guard_not rfl rfl (fun _ => ?_) (fun _ => ?_) | refine RunU.guard rfl rfl (fun _ => ?_) (fun _ => ?_))) | refine Then.next ?_ | refine InBlock.next ?_ | refine Done.ret (.one (by first | exact .c rfl | exact .own rfl | exact .als rfl rfl | exact .ptr rfl rfl | exact .part rfl rfl rfl) (.one (by first | exact .c rfl | exact .own rfl | exact .als rfl rfl | exact .ptr rfl rfl | exact .part rfl rfl rfl) .nil)) (.sh (.sh (.sh .nil))) ?_ rfl)
      all_goals first | rfl | (exfalso; omega) | simp_all
end Go.Proofs.Ytljhfjfccbpddaa
