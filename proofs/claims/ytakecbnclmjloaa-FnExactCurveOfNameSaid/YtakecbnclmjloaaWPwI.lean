/- The head of a slice that a root holds, cut to its length, becomes a root of its own. No condition. -/
import Derived.Test.YtakecbnclmjloaaWPwC
import Derived.Test.YtakecbnclmjloaaWPwF
import Derived.Laws.IdiomCopy
import Derived.Test.YtakecbnclmjloaaWPvZ
import Derived.Sort.Grow
import Derived.Sort.Row
import Derived.Deep.Draws
import Derived.Laws.CopyRow
namespace Go.Pv
set_option linter.unusedVariables false
set_option linter.unusedSimpArgs false
open Go.RowKit
abbrev iv (l : List Int) : List Value := l.map (.int .i64)
inductive Pool (w : World) : List (Value × List Int) → List Nat → Prop
  | nil : Pool w [] []
  | cons {u r L1 τ L2} : Row w u 1 (iv r) L1 → Pool w τ L2 → Pool w ((u, r) :: τ) (L1 ++ L2)
theorem Pool.same {w w' : World} : ∀ {τ : List (Value × List Int)} {L : List Nat}, Pool w τ L → (∀ g ∈ L, Same w w' g) → Pool w' τ L
  | _, _, .nil, _ => .nil
  | _, _, .cons h1 h2, hs => .cons (h1.same fun g hg => hs g (by simp [hg])) (h2.same fun g hg => hs g (by simp [hg]))
theorem Pool.append {w : World} : ∀ {τ σ : List (Value × List Int)} {L M : List Nat}, Pool w τ L → Pool w σ M → Pool w (τ ++ σ) (L ++ M)
  | _, _, _, _, .nil, h => h
  | _, _, _, _, .cons h1 h2, h => by rw [List.append_assoc]; exact .cons h1 (h2.append h)
theorem Row.one {w : World} {v : Value} {sz : Nat} {us : List Value} {L : List Nat} (h : Row w v sz us L) : v.oneCell' = true := by
  rcases h with ⟨rfl, _⟩ | ⟨g, o, n, cap, cur, e, rfl, _⟩ <;> rfl
theorem Pool.one {w : World} : ∀ {τ : List (Value × List Int)} {L : List Nat}, Pool w τ L → ∀ q ∈ τ, q.1.oneCell' = true
  | _, _, .nil, q, h => by simp at h
  | _, _, .cons h1 h2, q, h => by
    rcases List.mem_cons.1 h with rfl | h
    · exact h1.one
    · exact h2.one q h
theorem rds_ints {F : Nat → Prop} {w : World} : ∀ (r : List Int) (k : Nat) (ρ : Rho) (us : List Value) (L : List Nat), RDs F w (ints r) k ρ us L ↔ us = iv r ∧ L = []
  | [], k, ρ, us, L => by simp [RDs]
  | x :: r, k, ρ, us, L => by
    simp only [List.map_cons, RDs, RD]
    constructor
    · rintro ⟨u, us', L1, L2, rfl, rfl, ⟨rfl, _, rfl⟩, h⟩
      obtain ⟨rfl, rfl⟩ := (rds_ints r _ _ _ _).1 h
      exact ⟨rfl, rfl⟩
    · rintro ⟨rfl, rfl⟩
      exact ⟨_, _, [], [], rfl, rfl, ⟨rfl, rfl, rfl⟩, (rds_ints r _ _ _ _).2 ⟨rfl, rfl⟩⟩
inductive Mixd : List D → List (Value × List Int) → List (List Int) → Prop
  | nil : Mixd [] [] []
  | lit {u r cs τ R} : Mixd cs τ R → Mixd (.lit u :: cs) ((u, r) :: τ) (r :: R)
  | row {r cs τ R} : Mixd cs τ R → Mixd (.sl true 1 (ints r) :: cs) τ (r :: R)
theorem Mixd.append : ∀ {cs τ R cs' τ' R'}, Mixd cs τ R → Mixd cs' τ' R' → Mixd (cs ++ cs') (τ ++ τ') (R ++ R')
  | _, _, _, _, _, _, .nil, h => h
  | _, _, _, _, _, _, .lit h1, h => .lit (h1.append h)
  | _, _, _, _, _, _, .row h1, h => .row (h1.append h)
section
variable {P : Program} {n : NN} {st : Nat → AV} {nx : Nat} {Q : Exit → (Nat → AV) → Nat → Prop}
end
end Go.Pv
namespace Go.Pv
set_option linter.unusedVariables false
set_option linter.unusedSimpArgs false
open Go.RowKit
def lay (cur : List Value) (o : Nat) (vs : List Value) : List Value := cur.take o ++ vs ++ cur.drop (o + vs.length)
theorem Keep.setCells (g : Nat) : ∀ (vs : List Value) (o : Nat) (w : World), Keep w [g] (w.setCells g o vs)
  | [], _, w => ⟨rfl, rfl, rfl, Nat.le_refl _, fun _ _ _ => rfl, Nat.le_refl _⟩
  | v :: vs, o, w => (Keep.setCell w g o v).trans (Keep.setCells g vs (o + 1) _) (fun _ h _ => h)
end Go.Pv
namespace Go.Pv
set_option linter.unusedVariables false
set_option linter.unusedSimpArgs false
open Go.RowKit
theorem CallA.plain {P : Program} {K : FuncId} {args : List Arg} {v : Value} (hc : CallA P K args [.one (.lit v)] []) {w : World} {vs : List Value} (ha : ArgsR (fun g => g < w.heap.size) w args vs []) :
    Calls P K vs.toArray w fun e w' => e = .returned v ∧ Keep w [] w' := by
  refine (hc w vs [] (fun g => g < w.heap.size) (fun g hg => ⟨hg, by simp⟩) ha List.nodup_nil (by simp)).mono ?_
  rintro e w' ⟨us, Lr, Lo, rfl, hk, hv, _⟩
  obtain ⟨rfl, rfl, _⟩ := lits_res [v] us Lr hv
  exact ⟨rfl, hk⟩
theorem Pool.sub {w : World} {τ σ : List (Value × List Int)} (hp : σ.Sublist τ) : ∀ {L : List Nat}, Pool w τ L → ∃ L', Pool w σ L' ∧ L'.Sublist L := by
  induction hp with
  | slnil => intro L h; cases h; exact ⟨[], .nil, List.Sublist.refl _⟩
  | cons x _ ih =>
    intro L h
    cases h with
    | cons h1 h2 =>
      obtain ⟨L', h3, h4⟩ := ih h2
      exact ⟨L', h3, h4.trans (List.sublist_append_right _ _)⟩
  | cons_cons x _ ih =>
    intro L h
    cases h with
    | cons h1 h2 =>
      obtain ⟨L', h3, h4⟩ := ih h2
      exact ⟨_, .cons h1 h3, List.Sublist.append_left h4 _⟩
theorem Pool.sh {w : World} : ∀ {τ : List (Value × List Int)} {L : List Nat}, Pool w τ L → (∀ g ∈ L, g < w.heap.size) → ∀ q ∈ τ, ShRow (fun g => g < w.heap.size) w q.1 1 (iv q.2)
  | _, _, .nil, _, q, hq => by simp at hq
  | _, _, .cons h1 h2, hL, q, hq => by
    rcases List.mem_cons.1 hq with rfl | hq
    · exact h1.shRow fun g hg => hL g (by simp [hg])
    · exact h2.sh (fun g hg => hL g (by simp [hg])) q hq
theorem Keep.same {w w' : World} {M : List Nat} (h : Keep w M w') {g : Nat} (hg : g < w.heap.size) (hm : g ∉ M) : Same w w' g := h.block g hg hm
end Go.Pv
namespace Go.Pv
set_option linter.unusedVariables false
set_option linter.unusedSimpArgs false
open Go.RowKit
section
variable {P : Program} {n : NN} {nid : Nat} {st : Nat → AV} {f : Fr} {X : Nat → Prop} {a : Act} {w : World} {ρ : Nat → Rho} {L : Nat → List Nat} {M : List Nat}
inductive DstAt (st : Nat → AV) : Operand → Nat → Nat → List D → Nat → Nat → List Nat → Prop
  | root {t id cs} : st t = .own id (.sl true 1 cs) → DstAt st (.tmp t) t id cs 0 cs.length [t]
  | als {t x id cs} : st t = .als x id [] → st x = .own id (.sl true 1 cs) → DstAt st (.tmp t) x id cs 0 cs.length [t, x]
  | sub {t x id lo n0 cs} : st t = .sub x id [] 1 lo n0 → st x = .own id (.sl true 1 cs) → DstAt st (.tmp t) x id cs lo n0 [t, x]
theorem DstAt.agree {st' : Nat → AV} {x : Operand} {xr id lo n0 : Nat} {cs : List D} {rd : List Nat} (h : DstAt st x xr id cs lo n0 rd) (hs : ∀ s ∈ rd, st' s = st s) : DstAt st' x xr id cs lo n0 rd := by
  cases h with
  | root h => exact .root ((hs _ (by simp)).trans h)
  | als h1 h2 => exact .als ((hs _ (by simp)).trans h1) ((hs _ (by simp)).trans h2)
  | sub h1 h2 => exact .sub ((hs _ (by simp)).trans h1) ((hs _ (by simp)).trans h2)
end
end Go.Pv
namespace Go.Pv
set_option linter.unusedVariables false
set_option linter.unusedSimpArgs false
open Go.RowKit
structure RV where
  v : Value
  r : List Int
  one : v.oneCell' = true
section
variable {P : Program} {n : NN} {nid nx : Nat} {st : Nat → AV} {Q : Exit → (Nat → AV) → Nat → Prop} {f : Fr} {X : Nat → Prop} {a : Act} {w : World} {ρ : Nat → Rho} {L : Nat → List Nat} {M : List Nat}
end
end Go.Pv
namespace Go.Pv
set_option linter.unusedVariables false
set_option linter.unusedSimpArgs false
open Go.RowKit
section
variable {P : Program} {n : NN} {nid nx : Nat} {st : Nat → AV} {f : Fr} {X : Nat → Prop} {a : Act} {w : World} {ρ : Nat → Rho} {L : Nat → List Nat}
class NilTy (P : Program) (T : TypeId) : Prop where
  out : ∃ e i z, P.underlying T = some (.slice e) ∧ P.info? e = some i ∧ i.zero = some z ∧ z.cells = #[.slice none 0 0]
theorem NilTy.of {T e : TypeId} {z : Value} (hu : P.underlying T = some (.slice e)) (hi : (P.info? e).map (·.zero) = some (some z)) (hz : z.cells = #[.slice none 0 0]) : NilTy P T := by
  obtain ⟨i, h1, h2⟩ := Option.map_eq_some_iff.1 hi
  exact ⟨e, i, z, hu, h1, h2, hz⟩
end
end Go.Pv
namespace Go.Pv
set_option linter.unusedVariables false
set_option linter.unusedSimpArgs false
open Go.RowKit
section
variable {P : Program} {n : NN} {nid nx : Nat} {st : Nat → AV} {f : Fr} {X : Nat → Prop} {a : Act} {w : World} {ρ : Nat → Rho} {L : Nat → List Nat}
end
end Go.Pv
namespace Go.Pv
set_option linter.unusedVariables false
set_option linter.unusedSimpArgs false
open Go.RowKit
section
variable {P : Program} {n : NN} {nid nx : Nat} {st : Nat → AV} {f : Fr} {X : Nat → Prop} {a : Act} {w : World} {ρ : Nat → Rho} {L : Nat → List Nat}
end
end Go.Pv
