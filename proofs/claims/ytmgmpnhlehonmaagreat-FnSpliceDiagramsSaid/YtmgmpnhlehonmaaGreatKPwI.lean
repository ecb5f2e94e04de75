/- Structures whose rows are laid aside. No condition. -/
import Derived.Test.YtmgmpnhlehonmaaGreatKPwC
import Derived.Test.YtmgmpnhlehonmaaGreatKPvX
import Derived.Laws.IdiomCopy
import Derived.Test.YtmgmpnhlehonmaaGreatKPvZ
import Derived.Sort.Grow
import Derived.Sort.Row
import Derived.Deep.Draws
import Derived.Test.YtmgmpnhlehonmaaGreatKPwE
set_option linter.unusedVariables false
set_option linter.unusedSimpArgs false
namespace Go.Pv
open Go.RowKit
abbrev iv (l : List Int) : List Value := l.map (.int .i64)
inductive Pool (w : World) : List (Value × List Int) → List Nat → Prop
 | nil : Pool w [] []
 | cons {u r L1 τ L2} : Row w u 1 (iv r) L1 → Pool w τ L2 → Pool w ((u, r) :: τ) (L1 ++ L2)
theorem Pool.same {w w' : World} : ∀ {τ : List (Value × List Int)} {L : List Nat}, Pool w τ L → (∀ g ∈ L, Same w w' g) → Pool w' τ L
 | _, _, .nil, _ => .nil
 | _, _, .cons h1 h2, hs => .cons (h1.same fun g hg => hs g (by simp [hg])) (h2.same fun g hg => hs g (by simp [hg]))
theorem Pool.append {w : World} : ∀ {τ σ : List (Value × List Int)} {L M : List Nat}, Pool w τ L → Pool w σ M → Pool w (τ ++ σ) (L ++ M)
 | _, _, _, _, .nil, h => h
 | _, _, _, _, .cons h1 h2, h => by rw [List.append_assoc]; exact .cons h1 (h2.append h)
theorem Pool.perm {w : World} {τ σ : List (Value × List Int)} (hp : τ.Perm σ) : ∀ {L : List Nat}, Pool w τ L → ∃ L', Pool w σ L' ∧ L.Perm L' := by
 induction hp with
 | nil => intro L h; exact ⟨L, h, List.Perm.refl _⟩
 | cons x _ ih =>
  intro L h
  cases h with
  | cons h1 h2 =>
   obtain ⟨L', h3, h4⟩ := ih h2
   exact ⟨_, .cons h1 h3, List.Perm.append_left _ h4⟩
 | swap x y l =>
  intro L h
  cases h with
  | cons h1 h2 =>
   cases h2 with
   | cons h3 h4 =>
    refine ⟨_, .cons h3 (.cons h1 h4), ?_⟩
    rw [← List.append_assoc, ← List.append_assoc]
    exact List.Perm.append_right _ List.perm_append_comm
 | trans _ _ ih1 ih2 =>
  intro L h
  obtain ⟨L1, h1, h2⟩ := ih1 h
  obtain ⟨L2, h3, h4⟩ := ih2 h1
  exact ⟨L2, h3, h2.trans h4⟩
theorem Row.one {w : World} {v : Value} {sz : Nat} {us : List Value} {L : List Nat} (h : Row w v sz us L) : v.oneCell' = true := by
 rcases h with ⟨rfl, _⟩ | ⟨g, o, n, cap, cur, e, rfl, _⟩ <;> rfl
theorem Pool.one {w : World} : ∀ {τ : List (Value × List Int)} {L : List Nat}, Pool w τ L → ∀ q ∈ τ, q.1.oneCell' = true
 | _, _, .nil, q, h => by simp at h
 | _, _, .cons h1 h2, q, h => by
  rcases List.mem_cons.1 h with rfl | h
  ·exact h1.one
  ·exact h2.one q h
theorem rds_ints {F : Nat → Prop} {w : World} : ∀ (r : List Int) (k : Nat) (ρ : Rho) (us : List Value) (L : List Nat), RDs F w (ints r) k ρ us L ↔ us = iv r ∧ L = []
 | [], k, ρ, us, L => by simp [RDs]
 | x :: r, k, ρ, us, L => by
  simp only [List.map_cons, RDs, RD]
  constructor
  ·rintro ⟨u, us', L1, L2, rfl, rfl, ⟨rfl, _, rfl⟩, h⟩
   obtain ⟨rfl, rfl⟩ := (rds_ints r _ _ _ _).1 h
   exact ⟨rfl, rfl⟩
  ·rintro ⟨rfl, rfl⟩
   exact ⟨_, _, [], [], rfl, rfl, ⟨rfl, rfl, rfl⟩, (rds_ints r _ _ _ _).2 ⟨rfl, rfl⟩⟩
theorem rds_pool {F : Nat → Prop} {w : World} : ∀ (R : List (List Int)) (k : Nat) (ρ : Rho) (us : List Value) (L : List Nat), RDs F w (LL R) k ρ us L → ∃ τ, τ.map Prod.snd = R ∧ τ.map Prod.fst = us ∧ Pool w τ L
 | [], k, ρ, us, L, h => by
  simp only [List.map_nil, RDs] at h
  obtain ⟨rfl, rfl⟩ := h
  exact ⟨[], rfl, rfl, .nil⟩
 | r :: R, k, ρ, us, L, h => by
  simp only [List.map_cons, RDs, RD] at h
  obtain ⟨u, us', L1, L2, rfl, rfl, ⟨_, vs, L3, L4, rfl, h1, h2⟩, h3⟩ := h
  obtain ⟨rfl, rfl⟩ := (rds_ints r _ _ _ _).1 h2
  obtain ⟨τ, e1, e2, h4⟩ := rds_pool R _ _ _ _ h3
  rw [List.append_nil]
  exact ⟨(u, r) :: τ, by simp [e1], by simp [e2], .cons h1 h4⟩
theorem vals_rds {F : Nat → Prop} {w : World} : ∀ (us : List Value) (k : Nat) (ρ : Rho), (∀ u ∈ us, u.oneCell' = true) → RDs F w (us.map D.lit) k ρ us []
 | [], k, ρ, _ => by simp [RDs]
 | u :: us, k, ρ, h => by
  simp only [List.map_cons, RDs, RD]
  exact ⟨u, us, [], [], rfl, rfl, ⟨rfl, h u (by simp), rfl⟩, vals_rds us (k + 1) ρ fun x hx => h x (by simp [hx])⟩
theorem rd_open {F : Nat → Prop} {w : World} {R : List (List Int)} {ρ : Rho} {v : Value} {L : List Nat} (h : RD F w (.sl true 1 (LL R)) ρ v L) :
  ∃ τ L0 Lp, L = L0 ++ Lp ∧ τ.map Prod.snd = R ∧ Pool w τ Lp ∧ ∀ F' : Nat → Prop, RD F' w (.sl true 1 ((τ.map Prod.fst).map D.lit)) ρ v L0 := by
 simp only [RD] at h
 obtain ⟨h0, us, L0, L1, rfl, h1, h2⟩ := h
 obtain ⟨τ, e1, rfl, h3⟩ := rds_pool R _ _ _ _ h2
 refine ⟨τ, L0, L1, rfl, e1, h3, fun F' => ?_⟩
 simp only [RD]
 refine ⟨h0, τ.map Prod.fst, L0, [], by simp, h1, vals_rds _ _ _ fun u hu => ?_⟩
 obtain ⟨q, hq, rfl⟩ := List.mem_map.1 hu
 exact h3.one q hq
inductive Mixd : List D → List (Value × List Int) → List (List Int) → Prop
 | nil : Mixd [] [] []
 | lit {u r cs τ R} : Mixd cs τ R → Mixd (.lit u :: cs) ((u, r) :: τ) (r :: R)
 | row {r cs τ R} : Mixd cs τ R → Mixd (.sl true 1 (ints r) :: cs) τ (r :: R)
theorem Mixd.lits : ∀ τ : List (Value × List Int), Mixd ((τ.map Prod.fst).map D.lit) τ (τ.map Prod.snd)
 | [] => .nil
 | (u, r) :: τ => .lit (Mixd.lits τ)
theorem Mixd.append : ∀ {cs τ R cs' τ' R'}, Mixd cs τ R → Mixd cs' τ' R' → Mixd (cs ++ cs') (τ ++ τ') (R ++ R')
 | _, _, _, _, _, _, .nil, h => h
 | _, _, _, _, _, _, .lit h1, h => .lit (h1.append h)
 | _, _, _, _, _, _, .row h1, h => .row (h1.append h)
theorem mixed_rds {F F' : Nat → Prop} {w : World} : ∀ {cs τ R}, Mixd cs τ R → ∀ (k : Nat) (ρ ρ' : Rho) (us : List Value) (L Lp : List Nat), RDs F w cs k ρ us L → Pool w τ Lp → (∀ j u, us[j]? = some u → ρ' [k + j] = u) → ∃ L', RDs F' w (LL R) k ρ' us L' ∧ L'.Perm (L ++ Lp)
 | _, _, _, .nil, k, ρ, ρ', us, L, Lp, h, hp, _ => by
  simp only [RDs] at h
  obtain ⟨rfl, rfl⟩ := h
  cases hp
  exact ⟨[], by simp [RDs], List.Perm.refl _⟩
 | _, _, _, .lit (u := u) (r := r) (cs := cs) (τ := τ) (R := R) h1, k, ρ, ρ', us, L, Lp, h, hp, hρ => by
  simp only [RDs, RD] at h
  obtain ⟨v, us', L1, L2, rfl, rfl, ⟨rfl, _, rfl⟩, h2⟩ := h
  cases hp with
  | @cons _ _ P1 _ P2 p1 p2 =>
   obtain ⟨L', h3, h4⟩ := mixed_rds h1 (k + 1) ρ ρ' us' L2 P2 h2 p2 fun j u' hj => by
    have := hρ (j + 1) u' hj
    rwa [show k + (j + 1) = k + 1 + j by omega] at this
   refine ⟨P1 ++ L', ?_, ?_⟩
   ·simp only [List.map_cons, RDs, RD]
    exact ⟨v, us', P1, L', rfl, rfl, ⟨(hρ 0 v rfl).symm, iv r, P1, [], by simp, p1, (rds_ints r _ _ _ _).2 ⟨rfl, rfl⟩⟩, h3⟩
   ·rw [List.nil_append]
    refine (List.Perm.append_left P1 h4).trans ?_
    rw [← List.append_assoc, ← List.append_assoc]
    exact List.Perm.append_right _ List.perm_append_comm
 | _, _, _, .row (r := r) (cs := cs) (τ := τ) (R := R) h1, k, ρ, ρ', us, L, Lp, h, hp, hρ => by
  simp only [RDs, RD] at h
  obtain ⟨v, us', L1, L2, rfl, rfl, ⟨_, vs, L3, L4, rfl, q1, q2⟩, h2⟩ := h
  obtain ⟨rfl, rfl⟩ := (rds_ints r _ _ _ _).1 q2
  obtain ⟨L', h3, h4⟩ := mixed_rds h1 (k + 1) ρ ρ' us' L2 Lp h2 hp fun j u' hj => by
   have := hρ (j + 1) u' hj
   rwa [show k + (j + 1) = k + 1 + j by omega] at this
  refine ⟨L3 ++ L', ?_, ?_⟩
  ·simp only [List.map_cons, RDs, RD]
   exact ⟨v, us', L3, L', rfl, rfl, ⟨(hρ 0 v rfl).symm, iv r, L3, [], by simp, q1, (rds_ints r _ _ _ _).2 ⟨rfl, rfl⟩⟩, h3⟩
  ·rw [List.append_nil, List.append_assoc]
   exact List.Perm.append_left _ h4
theorem rd_close {F F' : Nat → Prop} {w : World} {cs : List D} {τ : List (Value × List Int)} {R : List (List Int)} {ρ : Rho} {v : Value} {L0 Lp : List Nat} (h : RD F w (.sl true 1 cs) ρ v L0) (hp : Pool w τ Lp) (hm : Mixd cs τ R) :
  ∃ ρ' L', RD F' w (.sl true 1 (LL R)) ρ' v L' ∧ L'.Perm (L0 ++ Lp) := by
 simp only [RD] at h
 obtain ⟨h0, us, L1, L2, rfl, h1, h2⟩ := h
 obtain ⟨ρ', r1, r2⟩ : ∃ ρ' : Rho, ρ' [] = v ∧ ∀ j u, us[j]? = some u → ρ' [0 + j] = u :=
  ⟨fun π => match π with | [] => v | [j] => us.getD j v | _ => v, rfl, fun j u hj => by simp [List.getD_eq_getElem?_getD, hj]⟩
 obtain ⟨L', h3, h4⟩ := mixed_rds (F' := F') hm 0 ρ ρ' us L2 Lp h2 hp r2
 refine ⟨ρ', L1 ++ L', ?_, ?_⟩
 ·simp only [RD]
  exact ⟨r1.symm, us, L1, L', rfl, h1, h3⟩
 ·rw [List.append_assoc]
  exact List.Perm.append_left _ h4
section
variable {P : Program} {n : NN} {st : Nat → AV} {nx : Nat} {Q : Exit → (Nat → AV) → Nat → Prop}
end
end Go.Pv
namespace Go.Pv
open Go.RowKit
def lay (cur : List Value) (o : Nat) (vs : List Value) : List Value := cur.take o ++ vs ++ cur.drop (o + vs.length)
theorem Keep.setCells (g : Nat) : ∀ (vs : List Value) (o : Nat) (w : World), Keep w [g] (w.setCells g o vs)
 | [], _, w => ⟨rfl, rfl, rfl, Nat.le_refl _, fun _ _ _ => rfl, Nat.le_refl _⟩
 | v :: vs, o, w => (Keep.setCell w g o v).trans (Keep.setCells g vs (o + 1) _) (fun _ h _ => h)
theorem CallA.plain {P : Program} {K : FuncId} {args : List Arg} {v : Value} (hc : CallA P K args [.one (.lit v)] []) {w : World} {vs : List Value} (ha : ArgsR (fun g => g < w.heap.size) w args vs []) :
  Calls P K vs.toArray w fun e w' => e = .returned v ∧ Keep w [] w' := by
 refine (hc w vs [] (fun g => g < w.heap.size) (fun g hg => ⟨hg, by simp⟩) ha List.nodup_nil (by simp)).mono ?_
 rintro e w' ⟨us, Lr, Lo, rfl, hk, hv, _⟩
 obtain ⟨rfl, rfl, _⟩ := lits_res [v] us Lr hv
 exact ⟨rfl, hk⟩
theorem Pool.sub {w : World} {τ σ : List (Value × List Int)} (hp : σ.Sublist τ) : ∀ {L : List Nat}, Pool w τ L → ∃ L', Pool w σ L' ∧ L'.Sublist L := by
 induction hp with
 | slnil => intro L h; cases h; exact ⟨[], .nil, List.Sublist.refl _⟩
 | cons x _ ih =>
  intro L h
  cases h with
  | cons h1 h2 =>
   obtain ⟨L', h3, h4⟩ := ih h2
   exact ⟨L', h3, h4.trans (List.sublist_append_right _ _)⟩
 | cons_cons x _ ih =>
  intro L h
  cases h with
  | cons h1 h2 =>
   obtain ⟨L', h3, h4⟩ := ih h2
   exact ⟨_, .cons h1 h3, List.Sublist.append_left h4 _⟩
theorem Pool.sh {w : World} : ∀ {τ : List (Value × List Int)} {L : List Nat}, Pool w τ L → (∀ g ∈ L, g < w.heap.size) → ∀ q ∈ τ, ShRow (fun g => g < w.heap.size) w q.1 1 (iv q.2)
 | _, _, .nil, _, q, hq => by simp at hq
 | _, _, .cons h1 h2, hL, q, hq => by
  rcases List.mem_cons.1 hq with rfl | hq
  ·exact h1.shRow fun g hg => hL g (by simp [hg])
  ·exact h2.sh (fun g hg => hL g (by simp [hg])) q hq
theorem Keep.same {w w' : World} {M : List Nat} (h : Keep w M w') {g : Nat} (hg : g < w.heap.size) (hm : g ∉ M) : Same w w' g := h.block g hg hm
structure RV where
 v : Value
 r : List Int
 one : v.oneCell' = true
def rv0 : RV := ⟨.slice none 0 0, [], rfl⟩
abbrev vals (A : List RV) : List D := A.map fun q => D.lit q.v
abbrev RV.pr (q : RV) : Value × List Int := (q.v, q.r)
theorem vals_get {A : List RV} {i : Nat} (h : i < A.length) : (A.map fun q => D.lit q.v)[i]? = some (.lit (A.getD i rv0).v) := map_get rv0 h
def rowsOf (A : List RV) : List (List Int) := A.map RV.r
theorem rowsOf_at (A : List RV) (i : Nat) : (rowsOf A).getD i [] = (A.getD i rv0).r := by
 simp only [rowsOf, List.getD_eq_getElem?_getD, List.getElem?_map]
 cases A[i]? <;> rfl
theorem pool_rvs {w : World} : ∀ {τ : List (Value × List Int)} {L : List Nat}, Pool w τ L → ∃ A : List RV, A.map RV.pr = τ
 | _, _, .nil => ⟨[], rfl⟩
 | _, _, .cons (u := u) (r := r) h1 h2 => by
  obtain ⟨A, hA⟩ := pool_rvs h2
  exact ⟨⟨u, r, h1.one⟩ :: A, by simp [RV.pr, hA]⟩
section
variable {P : Program} {n : NN} {nid nx : Nat} {st : Nat → AV} {Q : Exit → (Nat → AV) → Nat → Prop} {f : Fr} {X : Nat → Prop} {a : Act} {w : World} {ρ : Nat → Rho} {L : Nat → List Nat} {M : List Nat}
def litsOf (s : Nat → AV) (t : Nat) : AV := match s t with
 | .c (.lit v) => .c (.lit v)
 | _ => .dead
def HoldsV (s : Nat → AV) (z j : Nat) (B : List RV) : Prop := s z = .own j (.sl true 1 (vals B)) ∨ ∃ y, s y = .own j (.sl true 1 (vals B)) ∧ s z = .als y j []
def NN.rows (n : NN) (A : List RV) : NN := ⟨n.fn, n.K, n.R, mark0 ++ A.map RV.pr⟩
theorem rows_ne (n : NN) (A : List RV) : (n.rows A).S ≠ [] := by simp [NN.rows, mark0]
theorem open_core {c : Code} {nx1 : Nat} {st1 : Nat → AV} {L1 : Nat → List Nat} {ρ1 : Nat → Rho} {A : List RV} {B1 : List Nat} (hr : RepO f (fun i => i < nx) st a w ρ L) (hnx : nx ≤ nx1) (hpool : Pool w (A.map RV.pr) B1) (nb1 : B1.Nodup)
  (hsub : ∀ t, ∀ g ∈ L1 t, g ∈ L t) (hB1 : ∀ g ∈ B1, ∃ x, g ∈ L x) (hL'B : ∀ t, ∀ g ∈ L1 t, g ∉ B1) (hsr : ∀ t, SR f.F w ρ1 (st1 t) (tmp a t) (L1 t)) (hnd : ∀ t, (L1 t).Nodup) (hids : ∀ t, ∀ i ∈ (st1 t).ids, i < nx1) (hρ : ∀ i, i < nx → ρ1 i = ρ i)
  (h : WpA P (f.N.rows A) c st1 nx1
    (fun e s k => ∃ z j B B', B.Perm B' ∧ B'.Sublist A ∧ HoldsV s z j B ∧ Q e (put (litsOf s) z (.own k (.sl true 1 (LL (rowsOf B))))) (k + 1))) :
  c.wp P (fun e a' w' => ∃ st' nx', Q e st' nx' ∧ Rep f (fun i => i < nx') st' a' w') a w := by
 let M' : List Nat := open Classical in (List.range w.heap.size).filter fun g => decide (∃ t, g ∈ L1 t)
 have hM' : ∀ g, g ∈ M' ↔ g < w.heap.size ∧ ∃ t, g ∈ L1 t := fun g => by simp [M']
 have hBx : ∀ g ∈ B1, g < w.heap.size ∧ ¬ f.F g ∧ (g ∈ f.M ∨ f.w0.heap.size ≤ g) := fun g hg => by
  obtain ⟨x, hx⟩ := hB1 g hg
  exact ⟨(hr.bound x g hx).1, (hr.bound x g hx).2, hr.mine x g hx⟩
 have hBM : ∀ g ∈ B1, g < w.heap.size ∧ g ∉ M' := fun g hg => ⟨(hBx g hg).1, fun hm => by
  obtain ⟨_, t, ht⟩ := (hM' g).1 hm
  exact hL'B t g ht hg⟩
 let F1 : Nat → Prop := fun g => f.F g ∨ g ∈ B1
 have hFlt : ∀ g, F1 g → g < w.heap.size ∧ g ∉ M' := fun g hg => by
  rcases hg with hg | hg
  ·exact ⟨hr.F_lt hg, fun hm => by
    obtain ⟨_, t, ht⟩ := (hM' g).1 hm
    exact (hr.bound t g (hsub t g ht)).2 hg⟩
  ·exact hBM g hg
 have hrows : ∀ q ∈ (f.N.rows A).S, ShRow F1 w q.1 1 (q.2.map (.int .i64)) := by
  have key : ∀ {τ : List (Value × List Int)} {L0 : List Nat}, Pool w τ L0 → (∀ g ∈ L0, g ∈ B1) → ∀ q ∈ τ, ShRow F1 w q.1 1 (q.2.map (.int .i64)) := by
   intro τ
   induction τ with
   | nil => intro L0 _ _ q hq; simp at hq
   | cons p τ ih =>
    intro L0 hp hL q hq
    cases hp with
    | @cons u0 r0 _ _ _ h1 h2 =>
     rcases List.mem_cons.1 hq with rfl | hq
     ·rcases h1 with ⟨rfl, e2, _⟩ | ⟨g, o, m, cap, cur, e, rfl, q2, q3, q4, q5, q6, q7, rfl⟩
      ·simp only [iv] at e2
       refine ⟨none, 0, 0, rfl, by simp [e2], Nat.le_refl _, Nat.zero_le _, fun h => absurd (by simpa [iv] using e2) h⟩
      ·refine ⟨some ⟨g, o, none⟩, m, cap, rfl, q3, q4, q5, fun _ => ⟨_, rfl, .inr (hL g (by simp)), fun j u hu => ?_⟩⟩
       rw [addr_off]
       replace hu : (iv r0)[j]? = some u := hu
       exact cell_off q2 q7 hu
     ·exact ih h2 (fun g hg => hL g (by simp [hg])) q hq
  intro q hq
  simp only [NN.rows] at hq
  rw [List.mem_append] at hq
  rcases hq with hq | hq
  ·rw [mark0, List.mem_singleton] at hq
   subst hq
   exact ⟨none, 0, 0, rfl, rfl, Nat.le_refl _, Nat.zero_le _, fun h => absurd rfl h⟩
  ·exact key hpool (fun g hg => hg) q hq
 let f' : Fr := { w0 := w, M := M', N := f.N.rows A, H := f.H, F := F1, hF := hFlt, R := f.R, hK := f.hK, hR := f.hR, hS := hrows }
 have hrep' : Rep f' (fun i => i < nx1) st1 a w := by
  refine ⟨ρ1, L1, hr.defers, hr.size, hr.hold, ⟨rfl, rfl, rfl, Nat.le_refl _, fun _ _ _ => rfl, Nat.le_refl _⟩, fun t => SR.same (fun g hg => .inl hg) (fun _ _ => rfl) _ _ _ (hsr t) (fun _ _ => rfl) (fun _ _ => rfl), hnd, fun t u htu g hg hgu => hr.disj t u htu g (hsub t g hg) (hsub u g hgu), fun t g hg => ⟨(hr.bound t g (hsub t g hg)).1, fun hf => ?_⟩, hids, fun t g hg => .inl ((hM' g).2 ⟨(hr.bound t g (hsub t g hg)).1, t, hg⟩), fun q hq => ⟨by have := (hr.names q hq).1; omega, by rw [hρ _ (hr.names q hq).1]; exact (hr.names q hq).2⟩⟩
  rcases hf with hf | hf
  ·exact (hr.bound t g (hsub t g hg)).2 hf
  ·exact hL'B t g hg hf
 refine Code.wp_mono (fun e a' w' hq => ?_) (h f' a w rfl (.of hrep'))
 obtain ⟨s', k', ⟨z, j, B, B', hperm, hsubl, hz, hQ⟩, hrx⟩ := hq
 obtain ⟨ρ2, L2, hr2⟩ := hrx.still (rows_ne f.N A)
 refine ⟨put (litsOf s') z (.own k' (.sl true 1 (LL (rowsOf B)))), k' + 1, hQ, ?_⟩
 obtain ⟨y, hz2⟩ : ∃ y, RD F1 w' (.sl true 1 (vals B)) (ρ2 j) (tmp a' z) (L2 y) := by
  rcases hz with hz | ⟨y, hy, hz⟩
  ·have hz2 := hr2.slots z
   rw [hz] at hz2
   simp only [SR] at hz2
   exact ⟨z, hz2⟩
  ·have hz2 := hr2.slots z
   have hy2 := hr2.slots y
   rw [hz] at hz2
   rw [hy] at hy2
   simp only [SR] at hz2 hy2
   have ey : tmp a' y = ρ2 j [] := by
    have := hy2
    simp only [RD] at this
    exact this.1
   rw [hz2.2, ← ey]
   exact ⟨y, hy2⟩
 have hkeep : Keep w M' w' := hr2.keep
 have hpool' : Pool w' (A.map RV.pr) B1 := hpool.same fun g hg => hkeep.block g (hBM g hg).1 (hBM g hg).2
 obtain ⟨Lq, hpq, hLq⟩ := hpool'.sub (hsubl.map RV.pr)
 obtain ⟨Lp, hp2, hperm2⟩ := hpq.perm (hperm.symm.map RV.pr)
 have hLpB : ∀ g ∈ Lp, g ∈ B1 := fun g hg => hLq.subset (hperm2.symm.mem_iff.1 hg)
 have hmix : Mixd (vals B) (B.map RV.pr) (rowsOf B) := by
  have := Mixd.lits (B.map RV.pr)
  rw [List.map_map, List.map_map, List.map_map] at this
  exact this
 obtain ⟨ρz, Lz, hrd, hpz⟩ := rd_close (F' := f.F) hz2 hp2 hmix
 have hLz : ∀ g, g ∈ Lz → g ∈ L2 y ∨ g ∈ B1 := fun g hg => by
  rw [hpz.mem_iff, List.mem_append] at hg
  exact hg.imp_right (hLpB g)
 have hmine2 : ∀ t, ∀ g ∈ L2 t, g ∉ B1 := fun t g hg hb => (hr2.bound t g hg).2 (.inr hb)
 have hmine1 : ∀ t, ∀ g ∈ L2 t, g ∈ f.M ∨ f.w0.heap.size ≤ g := fun t g hg => by
  rcases hr2.mine t g hg with hm | hm
  ·obtain ⟨_, t', ht'⟩ := (hM' g).1 hm
   exact hr.mine t' g (hsub t' g ht')
  ·have h1 : w.heap.size ≤ g := hm
   exact .inr (Nat.le_trans hr.keep.size h1)
 refine ⟨fun i => if i = k' then ρz else ρ2 i, fun t => if t = z then Lz else [], hr2.defers, hr2.size, hr2.hold, hr.keep.trans hkeep (fun g hg hlt => ?_), fun t => ?_, fun t => ?_, fun t u htu g hg hgu => ?_, fun t g hg => ?_, fun t i hi => ?_, fun t g hg => ?_, fun q hq => ?_⟩
 ·obtain ⟨_, t', ht'⟩ := (hM' g).1 hg
  rcases hr.mine t' g (hsub t' g ht') with hm | hm
  ·exact hm
  ·omega
 ·by_cases ez : t = z
  ·subst ez
   rw [put_same]
   simp only [SR, if_true]
   exact hrd
  ·rw [put_other _ _ _ _ ez, if_neg ez]
   have h0 := hr2.slots t
   unfold litsOf
   split
   ·rename_i v hv
    rw [hv] at h0
    simp only [SR, RD] at h0 ⊢
    obtain ⟨_, r, h1, h2, _⟩ := h0
    exact ⟨trivial, r, h1, h2, trivial⟩
   ·simp only [SR]
 ·by_cases ez : t = z
  ·rw [if_pos ez]
   refine hpz.nodup_iff.2 ?_
   rw [List.nodup_append]
   exact ⟨hr2.nodup y, hperm2.nodup_iff.1 (hLq.nodup nb1), fun g hg g' hg' e => by subst e; exact hmine2 y g hg (hLpB g hg')⟩
  ·rw [if_neg ez]; exact List.nodup_nil
 ·by_cases ez : t = z
  ·have eu : u ≠ z := fun e => htu (ez.trans e.symm)
   rw [if_neg eu] at hgu
   simp at hgu
  ·rw [if_neg ez] at hg
   simp at hg
 ·by_cases ez : t = z
  ·rw [if_pos ez] at hg
   rcases hLz g hg with hg | hg
   ·exact ⟨(hr2.bound y g hg).1, fun hf => (hr2.bound y g hg).2 (.inl hf)⟩
   ·exact ⟨Nat.lt_of_lt_of_le (hBM g hg).1 hkeep.size, (hBx g hg).2.1⟩
  ·rw [if_neg ez] at hg; simp at hg
 ·by_cases ez : t = z
  ·subst ez; rw [put_same] at hi; simp only [AV.ids, List.mem_singleton] at hi; omega
  ·rw [put_other _ _ _ _ ez] at hi
   unfold litsOf at hi
   split at hi <;> simp [AV.ids] at hi
 ·by_cases ez : t = z
  ·rw [if_pos ez] at hg
   rcases hLz g hg with hg | hg
   ·exact hmine1 y g hg
   ·exact (hBx g hg).2.2
  ·rw [if_neg ez] at hg; simp at hg
 ·have := hr2.names q hq
  exact ⟨by omega, (if_neg (by omega)).trans this.2⟩
theorem root_open {x id1 : Nat} {R1 : List (List Int)} (hr : RepO f X st a w ρ L) (hx : st x = .own id1 (.sl true 1 (LL R1))) :
  ∃ (A : List RV) (A1 B1 : List Nat), rowsOf A = R1 ∧ L x = A1 ++ B1 ∧ Pool w (A.map RV.pr) B1 ∧ ∀ F' : Nat → Prop, RD F' w (.sl true 1 (vals A)) (ρ id1) (tmp a x) A1 := by
 have k1 := hr.slots x
 rw [hx] at k1
 simp only [SR] at k1
 obtain ⟨τ1, A1, B1, eL1, e1, hpool, d1⟩ := rd_open k1
 obtain ⟨A, rfl⟩ := pool_rvs hpool
 refine ⟨A, A1, B1, by rw [← e1, List.map_map]; rfl, eL1, hpool, fun F' => ?_⟩
 have := d1 F'
 rw [List.map_map, List.map_map] at this
 exact this
theorem WpA.openedS {c : Code} {x id1 : Nat} {R1 : List (List Int)} (hn0 : n.S = []) (hx : st x = .own id1 (.sl true 1 (LL R1)))
  (h : ∀ A : List RV, rowsOf A = R1 →
   WpA P (n.rows A) c (put st x (.own nx (.sl true 1 (vals A)))) (nx + 1)
    (fun e s k => ∃ z j B B', B.Perm B' ∧ B'.Sublist A ∧ HoldsV s z j B ∧ Q e (put (litsOf s) z (.own k (.sl true 1 (LL (rowsOf B))))) (k + 1))) : WpA P n c st nx Q := by
 refine WpA.of0 ?_
 intro f a w hn hrep
 obtain ⟨ρ, L, hr⟩ := hrep
 subst hn
 obtain ⟨A, A1, B1, hA2, eL1, hpool, d1⟩ := root_open hr hx
 have nd1 := hr.nodup x
 rw [eL1] at nd1
 simp only [List.nodup_append] at nd1
 obtain ⟨na1, nb1, nab1⟩ := nd1
 refine Code.wp_mono (fun _ _ _ ⟨s, k, q, r⟩ => ⟨s, k, q, .of r⟩) (open_core (L1 := fun t => if t = x then A1 else L t) (ρ1 := fun i => if i = nx then ρ id1 else ρ i) hr (Nat.le_succ nx) hpool nb1 (fun t g hg => ?_) (fun g hg => ⟨x, by rw [eL1]; simp [hg]⟩) (fun t g hg hf => ?_) (fun t => ?_) (fun t => ?_) (fun t i hi => ?_) (fun i hi => by rw [if_neg (by omega)]) (h A hA2))
 ·skip
  split at hg
  ·rename_i e; rw [e, eL1]; simp [hg]
  ·exact hg
 ·by_cases et : t = x
  ·subst et
   rw [if_pos rfl] at hg
   exact nab1 g hg g hf rfl
  ·rw [if_neg et] at hg
   exact hr.disj t x et g hg (by rw [eL1]; simp [hf])
 ·by_cases ex : t = x
  ·subst ex
   rw [put_same]
   simp only [SR, if_true]
   exact d1 _
  ·rw [put_other _ _ _ _ ex]
   simp only [if_neg ex]
   exact SR.same (fun g hg => hg) (fun _ _ => rfl) _ _ _ (hr.slots t) (fun _ _ => rfl) (fun i hi => if_neg (by have := hr.ids t i hi; omega))
 ·skip
  split
  ·exact na1
  ·exact hr.nodup t
 ·by_cases ex : t = x
  ·subst ex; rw [put_same] at hi; simp only [AV.ids, List.mem_singleton] at hi; omega
  ·rw [put_other _ _ _ _ ex] at hi
   have := hr.ids t i hi
   omega
theorem mem_rows {n : NN} {A : List RV} {q : RV} (h : q ∈ A) : (q.v, q.r) ∈ (n.rows A).S := List.mem_append_right _ (List.mem_map.2 ⟨q, h, rfl⟩)
end
end Go.Pv
namespace Go.Pv
open Go.RowKit
section
variable {P : Program} {n : NN} {nid nx : Nat} {st : Nat → AV} {f : Fr} {X : Nat → Prop} {a : Act} {w : World} {ρ : Nat → Rho} {L : Nat → List Nat}
class NilTy (P : Program) (T : TypeId) : Prop where
 out : ∃ e i z, P.underlying T = some (.slice e) ∧ P.info? e = some i ∧ i.zero = some z ∧ z.cells = #[.slice none 0 0]
theorem NilTy.of {T e : TypeId} {z : Value} (hu : P.underlying T = some (.slice e)) (hi : (P.info? e).map (·.zero) = some (some z)) (hz : z.cells = #[.slice none 0 0]) : NilTy P T := by
 obtain ⟨i, h1, h2⟩ := Option.map_eq_some_iff.1 hi
 exact ⟨e, i, z, hu, h1, h2, hz⟩
end
end Go.Pv
namespace Go.Pv
open Go.RowKit
section
variable {P : Program} {n : NN} {nid nx : Nat} {st : Nat → AV} {f : Fr} {X : Nat → Prop} {a : Act} {w : World} {ρ : Nat → Rho} {L : Nat → List Nat}
theorem Row.tail {v : Value} {us : List Value} {L0 : List Nat} (h : Row w v 1 us L0) {l : Nat} (hl : l ≤ us.length) :
  ∃ b cap, v = .slice b us.length cap ∧ us.length ≤ cap ∧ Row w (.slice (if cap = l then b else b.map (·.add (l * 1))) (us.length - l) (cap - l)) 1 (us.drop l) L0 := by
 rcases h with ⟨rfl, rfl, rfl⟩ | ⟨g, o, n0, cap, cur, e, rfl, k2, k3, k4, k5, k6, k7, rfl⟩
 ·have hl0 : l = 0 := by simpa using hl
  subst hl0
  exact ⟨none, 0, rfl, Nat.le_refl _, .inl ⟨by simp, by simp, rfl⟩⟩
 ·have hn : n0 = us.length := by omega
  subst hn
  refine ⟨_, cap, rfl, k4, ?_⟩
  by_cases hc : cap = l
  ·rw [if_pos hc]
   have hul : us.drop l = [] := List.drop_eq_nil_of_le (by omega)
   rw [hul]
   exact .inr ⟨g, o, us.length - l, cap - l, cur, e, rfl, k2, by simp; omega, by omega, by omega, by omega, by rw [show us.length - l = 0 by omega]; simp, rfl⟩
  ·rw [if_neg hc]
   refine .inr ⟨g, o + l, us.length - l, cap - l, cur, e, by simp only [Option.map_some, addr_off, Nat.mul_one], k2, by simp, by omega, by omega, by omega, ?_, rfl⟩
   have e1 : us.drop l = ((cur.toList.drop o).take (us.length * 1)).drop l := by rw [k7]
   rw [e1, List.drop_take, List.drop_drop, Nat.mul_one, Nat.mul_one]
theorem step_tail {d l : Nat} {j : Int} {k : IntKind} {s xlo : Operand} {T : TypeId} {li : List Int} {rd : List Nat} {up : List (Nat × AV)} {ty pos aft g} [hT : SliceTy P T 1] (h : Give st s rd (.sl true 1 (ints li)) up) (hlo : Lit st xlo (.int k j)) (hj : j = (l : Int)) (hl : l ≤ li.length) (hd : n d = true) :
  Step P n ⟨some d, .slice T s (some xlo) none none, ty, pos, aft, g⟩ nid st (rd ++ rdOf xlo) (up ++ [(d, .own nid (.sl true 1 (ints (li.drop l))))]) := by
 intro X st' hs hX f a w hn hrep K Q hK
 obtain ⟨ρ, L, hr⟩ := hrep
 subst hn
 have ek := Lit.eval hr (hlo.agree fun s hs' => hs s (by simp [hs']))
 obtain ⟨r, L', M1, hm, hv1⟩ := hr.toM.give (h.agree fun s hs' => hs s (by simp [hs']))
 rw [puts_append] at hK
 rw [List.nil_append] at hm
 simp only [RD] at hv1
 obtain ⟨e0, us, L0, L3, rfl, h1, h5⟩ := hv1
 obtain ⟨rfl, rfl⟩ := (rds_ints li _ _ _ _).1 h5
 have hlen : (iv li).length = li.length := by simp
 obtain ⟨b, cap, ev, hcap, hrow⟩ := h1.tail (l := l) (by rw [hlen]; exact hl)
 rw [hlen] at ev hcap hrow
 have hrun := run_slice_cut (P := P) (T := T) w b li.length cap l li.length (some (a.eval xlo)) none (.inr ⟨k, by rw [ek, hj]⟩) (.inl ⟨rfl, rfl⟩) hl (Nat.le_refl _) hcap
 refine wV_ (u := .slice (if cap = l then b else b.map (·.add (l * 1))) (li.length - l) (cap - l)) (w' := w) ?_ (hm.put_root hK hd hX _ w [] (by simp) (Keep.refl w) (fun _ => .slice (if cap = l then b else b.map (·.add (l * 1))) (li.length - l) (cap - l)) L0 ?_ ?_ (fun g hg => ⟨(hm.bound g (by simp [hg])).1, .inl (by simp [hg])⟩))
 ·simp only [execOp, ev, Option.map_some, Option.map_none, Sem.run_bind, hrun, Result.andThen_ok, Sem.run_pure]
 ·simp only [RD]
  exact ⟨trivial, _, L0, [], by simp, hrow, (rds_ints _ _ _ _ _).2 ⟨by simp [List.map_drop], rfl⟩⟩
 ·have := hm.nd
  simpa using this
end
end Go.Pv
namespace Go.Pv
open Go.RowKit
section
variable {P : Program} {n : NN} {nid nx : Nat} {st : Nat → AV} {Q : Exit → (Nat → AV) → Nat → Prop} {f : Fr} {X : Nat → Prop} {a : Act} {w : World} {ρ : Nat → Rho} {L : Nat → List Nat} {M : List Nat}
theorem step_load_S {d t x id off : Nat} {path : List Nat} {T : TypeId} {dd d1 : D} {cs : List D} {u : Value} {r : List Int} {ty pos aft g} [OneTy P T] (h : st t = .ptr x id path off) (hx : st x = .own id dd) (hn' : dd.nav path = some d1) (hk : d1.kids = some cs) (hc : cs[off]? = some (.lit u)) (hm : (u, r) ∈ n.S) (hd : n d = true) :
  Step P n ⟨some d, .load T (.tmp t), ty, pos, aft, g⟩ nid st [t, x] [(d, .c (.sl false 1 (ints r)))] := by
 intro X st' hs hX f a w hn hrep K Q hK
 obtain ⟨ρ, L, hr⟩ := hrep
 subst hn
 have hrow := hr.rows (u, r) hm
 have ht := hr.slots t
 have hids := hr.ids t
 rw [(hs t (by simp)).trans h] at ht hids
 simp only [SR] at ht
 obtain ⟨_, b, hb, e0⟩ := ht
 obtain ⟨g0, o0, us, L1, hb', hg, hL1, h5, h6, _⟩ := hr.partKids ((hs x (by simp)).trans hx) hn' hk (by rintro rfl; simp at hc)
 rw [hb] at hb'
 simp only [Option.some.injEq] at hb'
 subst hb'
 obtain ⟨u2, A, M, B, hu, e, h7, _⟩ := RDs.at cs 0 _ us L1 h5 off (.lit u) hc
 simp only [RD] at h7
 obtain ⟨rfl, _, _⟩ := h7
 refine wV_ (u := u2) (w' := w) ?_ (hr.done_light hK hd _ w (Keep.refl w) ?_ (fun i hi => by simp [AV.ids] at hi))
 ·have e1 : a.eval (.tmp t) = _ := e0
  rw [addr_off] at e1
  simp only [execOp, e1, Sem.run_bind, run_load_one w _ u2 (h6 off u2 hu), Result.andThen_ok, Sem.run_pure]
 ·simp only [SR, RD]
  exact ⟨trivial, fun _ => undef, trivial, _, hrow, (rds_ints r _ _ _ _).2 ⟨rfl, rfl⟩⟩
end
end Go.Pv
