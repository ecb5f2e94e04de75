/- Data trees with ownership, and how a concrete value in a world stands for one: what the walks of this claim rest on. No condition. -/
import Derived.WalkKit
namespace Go.Pv
set_option linter.unusedVariables false
set_option linter.unusedSimpArgs false
open Go.RowKit

/-- A datum of one cell: a plain value; a slice (own: in a block of its own) with its cells; a pointer to a variable with its cells; a place whose content is gone. -/
inductive D where
  | lit (v : Value)
  | sl (own : Bool) (sz : Nat) (cs : List D)
  | pt (own : Bool) (cs : List D)
  | hole
  | fn (g : FuncId) (cs : List D)

mutual
def D.free : D → Bool
  | .lit _ => true
  | .sl own _ cs => !own && D.frees cs
  | .pt own cs => !own && D.frees cs
  | .fn _ cs => D.frees cs
  | .hole => false
def D.frees : List D → Bool
  | [] => true
  | d :: ds => d.free && D.frees ds
end

mutual
def D.erase : D → D
  | .lit v => .lit v
  | .sl _ sz cs => .sl false sz (D.erases cs)
  | .pt _ cs => .pt false (D.erases cs)
  | .fn g cs => .fn g (D.erases cs)
  | .hole => .hole
def D.erases : List D → List D
  | [] => []
  | d :: ds => d.erase :: D.erases ds
end

theorem D.erases_eq (l : List D) : D.erases l = l.map D.erase := by
  induction l with
  | nil => rfl
  | cons d ds ih => simp [D.erases, ih]

/-- The blocks that two worlds have in common. -/
def Same (w w' : World) (g : Nat) : Prop := w'.heap[g]? = w.heap[g]?

abbrev Rho := List Nat → Value
def Rho.at (ρ : Rho) (k : Nat) : Rho := fun π => ρ (k :: π)
def Rho.upd (ρ : Rho) (k : Nat) (ρ' : Rho) : Rho := fun π => match π with
  | [] => ρ []
  | j :: π' => if j = k then ρ' π' else ρ (j :: π')

/-- The slice value v has its cells us at the head of a block of its own. -/
def Row (w : World) (v : Value) (sz : Nat) (us : List Value) (L : List Nat) : Prop :=
  (v = .slice none 0 0 ∧ us = [] ∧ L = []) ∨
  ∃ g n cap cur e, v = .slice (some ⟨g, 0, none⟩) n cap ∧ w.heap[g]? = some (.cells cur e (0, 0)) ∧ n * sz = us.length ∧ n ≤ cap ∧ cap ≤ maxLen ∧
    cur.size = cap * sz ∧ cur.toList.take (n * sz) = us ∧ L = [g]

/-- The slice value v has its cells us in memory that nobody writes. -/
def ShRow (F : Nat → Prop) (w : World) (v : Value) (sz : Nat) (us : List Value) : Prop :=
  ∃ a n cap, v = .slice a n cap ∧ n * sz = us.length ∧ n ≤ cap ∧ cap ≤ maxLen ∧
    (us ≠ [] → ∃ b, a = some b ∧ F b.block ∧ ∀ (j : Nat) (u : Value), us[j]? = some u → w.cell? (b.add j) = some u)

mutual
def RD (F : Nat → Prop) (w : World) : D → Rho → Value → List Nat → Prop
  | .lit u, _, v, L => v = u ∧ u.oneCell' = true ∧ L = []
  | .hole, ρ, v, L => v = ρ [] ∧ v.oneCell' = true ∧ L = []
  | .sl true sz cs, ρ, v, L => v = ρ [] ∧ ∃ us L0 L1, L = L0 ++ L1 ∧ Row w v sz us L0 ∧ RDs F w cs 0 ρ us L1
  | .sl false sz cs, ρ, v, L => L = [] ∧ ∃ us, ShRow F w v sz us ∧ RDs F w cs 0 ρ us []
  | .pt true cs, ρ, v, L => v = ρ [] ∧ ∃ g us L1 e, v = .pointer (some ⟨g, 0, none⟩) ∧ L = g :: L1 ∧ w.heap[g]? = some (.cells us.toArray e (0, 0)) ∧ RDs F w cs 0 ρ us L1
  | .pt false cs, ρ, v, L => L = [] ∧ ∃ b us, v = .pointer (some b) ∧ F b.block ∧ (∀ (j : Nat) (u : Value), us[j]? = some u → w.cell? (b.add j) = some u) ∧ RDs F w cs 0 ρ us []
  | .fn g cs, ρ, v, L => L = [] ∧ ∃ us, v = .func (.func g) #[] us.toArray ∧ RDs F w cs 0 ρ us []
def RDs (F : Nat → Prop) (w : World) : List D → Nat → Rho → List Value → List Nat → Prop
  | [], _, _, us, L => us = [] ∧ L = []
  | d :: ds, k, ρ, us, L => ∃ u us' L1 L2, us = u :: us' ∧ L = L1 ++ L2 ∧ RD F w d (ρ.at k) u L1 ∧ RDs F w ds (k + 1) ρ us' L2
end

theorem RDs.length {F : Nat → Prop} {w : World} : ∀ {cs : List D} {k : Nat} {ρ : Rho} {us : List Value} {L : List Nat}, RDs F w cs k ρ us L → us.length = cs.length
  | [], _, _, _, _, h => by simp only [RDs] at h; simp [h.1]
  | d :: ds, k, ρ, us, L, h => by
    simp only [RDs] at h
    obtain ⟨u, us', L1, L2, rfl, _, _, h2⟩ := h
    simp [RDs.length h2]

theorem Row.same {w w' : World} {v : Value} {sz : Nat} {us : List Value} {L : List Nat} (h : Row w v sz us L) (hs : ∀ g ∈ L, Same w w' g) : Row w' v sz us L := by
  rcases h with h | ⟨g, n, cap, cur, e, h1, h2, h3, h4, h5, h6, h7, rfl⟩
  · exact .inl h
  · exact .inr ⟨g, n, cap, cur, e, h1, (hs g (by simp)).trans h2, h3, h4, h5, h6, h7, rfl⟩

theorem cell_same {w w' : World} {a : Addr} (h : Same w w' a.block) : w'.cell? a = w.cell? a := by
  unfold Same at h; simp [World.cell?, h]

theorem add_block (b : Addr) (j : Nat) : (b.add j).block = b.block := by unfold Addr.add; split <;> rfl

theorem ShRow.same {F F' : Nat → Prop} {w w' : World} {v : Value} {sz : Nat} {us : List Value} (h : ShRow F w v sz us) (hF : ∀ g, F g → F' g) (hs : ∀ g, F g → Same w w' g) : ShRow F' w' v sz us := by
  obtain ⟨a, n, cap, h1, h2, h3, h4, h5⟩ := h
  refine ⟨a, n, cap, h1, h2, h3, h4, fun hne => ?_⟩
  obtain ⟨b, rfl, hb, hc⟩ := h5 hne
  exact ⟨b, rfl, hF _ hb, fun j u hu => (cell_same (by rw [add_block]; exact hs _ hb)).trans (hc j u hu)⟩

mutual
/-- Blocks that are not written keep what they stand for. -/
theorem RD.same {F F' : Nat → Prop} {w w' : World} (hF : ∀ g, F g → F' g) (hs : ∀ g, F g → Same w w' g) :
    ∀ (d : D) (ρ : Rho) (v : Value) (L : List Nat), RD F w d ρ v L → (∀ g ∈ L, Same w w' g) → RD F' w' d ρ v L
  | .lit u, _, _, _, h, _ => by simpa only [RD] using h
  | .hole, _, _, _, h, _ => by simpa only [RD] using h
  | .sl true sz cs, ρ, v, L, h, hL => by
    simp only [RD] at h ⊢
    obtain ⟨h0, us, L0, L1, rfl, h1, h2⟩ := h
    exact ⟨h0, us, L0, L1, rfl, h1.same (fun g hg => hL g (by simp [hg])), RDs.same hF hs cs 0 ρ us L1 h2 (fun g hg => hL g (by simp [hg]))⟩
  | .sl false sz cs, ρ, v, L, h, _ => by
    simp only [RD] at h ⊢
    obtain ⟨h0, us, h1, h2⟩ := h
    exact ⟨h0, us, h1.same hF hs, RDs.same hF hs cs 0 ρ us [] h2 (fun g hg => by simp at hg)⟩
  | .pt true cs, ρ, v, L, h, hL => by
    simp only [RD] at h ⊢
    obtain ⟨h0, g, us, L1, e, h1, rfl, h2, h3⟩ := h
    exact ⟨h0, g, us, L1, e, h1, rfl, (hL g (by simp)).trans h2, RDs.same hF hs cs 0 ρ us L1 h3 (fun g hg => hL g (by simp [hg]))⟩
  | .pt false cs, ρ, v, L, h, _ => by
    simp only [RD] at h ⊢
    obtain ⟨h0, b, us, h1, h2, h3, h4⟩ := h
    exact ⟨h0, b, us, h1, hF _ h2, fun j u hu => (cell_same (by rw [add_block]; exact hs _ h2)).trans (h3 j u hu), RDs.same hF hs cs 0 ρ us [] h4 (fun g hg => by simp at hg)⟩
  | .fn g cs, ρ, v, L, h, _ => by
    simp only [RD] at h ⊢
    obtain ⟨h0, us, h1, h2⟩ := h
    exact ⟨h0, us, h1, RDs.same hF hs cs 0 ρ us [] h2 (fun g hg => by simp at hg)⟩
theorem RDs.same {F F' : Nat → Prop} {w w' : World} (hF : ∀ g, F g → F' g) (hs : ∀ g, F g → Same w w' g) :
    ∀ (ds : List D) (k : Nat) (ρ : Rho) (us : List Value) (L : List Nat), RDs F w ds k ρ us L → (∀ g ∈ L, Same w w' g) → RDs F' w' ds k ρ us L
  | [], _, _, _, _, h, _ => by simpa only [RDs] using h
  | d :: ds, k, ρ, us, L, h, hL => by
    simp only [RDs] at h ⊢
    obtain ⟨u, us', L1, L2, rfl, rfl, h1, h2⟩ := h
    exact ⟨u, us', L1, L2, rfl, rfl, RD.same hF hs d _ u L1 h1 (fun g hg => hL g (by simp [hg])), RDs.same hF hs ds (k + 1) ρ us' L2 h2 (fun g hg => hL g (by simp [hg]))⟩
end

mutual
/-- What is owned may be read as memory that nobody writes. -/
theorem RD.erase {F F' : Nat → Prop} {w : World} (hF : ∀ g, F g → F' g) :
    ∀ (d : D) (ρ : Rho) (v : Value) (L : List Nat), RD F w d ρ v L → (∀ g ∈ L, F' g) → RD F' w d.erase ρ v []
  | .lit u, _, _, _, h, _ => by simp only [RD, D.erase] at h ⊢; exact ⟨h.1, h.2.1, trivial⟩
  | .hole, _, _, _, h, _ => by simp only [RD, D.erase] at h ⊢; exact ⟨h.1, h.2.1, trivial⟩
  | .sl true sz cs, ρ, v, L, h, hL => by
    simp only [RD, D.erase] at h ⊢
    obtain ⟨h0, us, L0, L1, rfl, h1, h2⟩ := h
    refine ⟨trivial, us, ?_, RDs.erase hF cs 0 ρ us L1 h2 (fun g hg => hL g (by simp [hg]))⟩
    rcases h1 with ⟨rfl, rfl, rfl⟩ | ⟨g, n, cap, cur, e, h1, h2, h3, h4, h5, h6, h7, rfl⟩
    · exact ⟨none, 0, 0, rfl, by simp, Nat.le_refl _, Nat.zero_le _, fun h => absurd rfl h⟩
    · refine ⟨some ⟨g, 0, none⟩, n, cap, h1, h3, h4, h5, fun _ => ⟨_, rfl, hL g (by simp), fun j u hu => ?_⟩⟩
      have hadd : (⟨g, 0, none⟩ : Addr).add j = ⟨g, j, none⟩ := by unfold Addr.add; split <;> simp_all
      rw [hadd, cell_of_row w g j cur e (0, 0) h2]
      rw [← h7, List.getElem?_take] at hu
      split at hu
      · simpa using hu
      · cases hu
  | .sl false sz cs, ρ, v, L, h, _ => by
    simp only [RD, D.erase] at h ⊢
    obtain ⟨h0, us, h1, h2⟩ := h
    exact ⟨trivial, us, h1.same hF (fun _ _ => rfl), RDs.erase hF cs 0 ρ us [] h2 (fun g hg => by simp at hg)⟩
  | .pt true cs, ρ, v, L, h, hL => by
    simp only [RD, D.erase] at h ⊢
    obtain ⟨h0, g, us, L1, e, h1, rfl, h2, h3⟩ := h
    refine ⟨trivial, ⟨g, 0, none⟩, us, h1, hL g (by simp), fun j u hu => ?_, RDs.erase hF cs 0 ρ us L1 h3 (fun g hg => hL g (by simp [hg]))⟩
    have hadd : (⟨g, 0, none⟩ : Addr).add j = ⟨g, j, none⟩ := by unfold Addr.add; split <;> simp_all
    rw [hadd, cell_of_row w g j us.toArray e (0, 0) h2]
    simpa using hu
  | .pt false cs, ρ, v, L, h, _ => by
    simp only [RD, D.erase] at h ⊢
    obtain ⟨h0, b, us, h1, h2, h3, h4⟩ := h
    exact ⟨trivial, b, us, h1, hF _ h2, h3, RDs.erase hF cs 0 ρ us [] h4 (fun g hg => by simp at hg)⟩
  | .fn g cs, ρ, v, L, h, _ => by
    simp only [RD, D.erase] at h ⊢
    obtain ⟨h0, us, h1, h2⟩ := h
    exact ⟨trivial, us, h1, RDs.erase hF cs 0 ρ us [] h2 (fun g hg => by simp at hg)⟩
theorem RDs.erase {F F' : Nat → Prop} {w : World} (hF : ∀ g, F g → F' g) :
    ∀ (ds : List D) (k : Nat) (ρ : Rho) (us : List Value) (L : List Nat), RDs F w ds k ρ us L → (∀ g ∈ L, F' g) → RDs F' w (D.erases ds) k ρ us []
  | [], _, _, _, _, h, _ => by simp only [RDs, D.erases] at h ⊢; exact ⟨h.1, trivial⟩
  | d :: ds, k, ρ, us, L, h, hL => by
    simp only [RDs, D.erases] at h ⊢
    obtain ⟨u, us', L1, L2, rfl, rfl, h1, h2⟩ := h
    exact ⟨u, us', [], [], rfl, rfl, RD.erase hF d _ u L1 h1 (fun g hg => hL g (by simp [hg])), RDs.erase hF ds (k + 1) ρ us' L2 h2 (fun g hg => hL g (by simp [hg]))⟩
end

mutual
/-- Nothing in it is anybody else's. -/
def D.solid : D → Bool
  | .lit _ | .hole => true
  | .sl own _ cs | .pt own cs => own && D.solids cs
  | .fn _ cs => D.solids cs
def D.solids : List D → Bool
  | [] => true
  | d :: ds => d.solid && D.solids ds
end

mutual
theorem RD.solid {F F' : Nat → Prop} {w : World} : ∀ (d : D) (ρ : Rho) (v : Value) (L : List Nat), RD F w d ρ v L → d.solid = true → RD F' w d ρ v L
  | .lit u, _, _, _, h, _ => by simpa only [RD] using h
  | .hole, _, _, _, h, _ => by simpa only [RD] using h
  | .sl true sz cs, ρ, v, L, h, hs => by
    simp only [D.solid, Bool.true_and] at hs
    simp only [RD] at h ⊢
    obtain ⟨h0, us, L0, L1, rfl, h1, h2⟩ := h
    exact ⟨h0, us, L0, L1, rfl, h1, RDs.solid cs 0 ρ us L1 h2 hs⟩
  | .sl false sz cs, ρ, v, L, h, hs => by simp [D.solid] at hs
  | .pt true cs, ρ, v, L, h, hs => by
    simp only [D.solid, Bool.true_and] at hs
    simp only [RD] at h ⊢
    obtain ⟨h0, g, us, L1, e, h1, rfl, h2, h3⟩ := h
    exact ⟨h0, g, us, L1, e, h1, rfl, h2, RDs.solid cs 0 ρ us L1 h3 hs⟩
  | .pt false cs, ρ, v, L, h, hs => by simp [D.solid] at hs
  | .fn g cs, ρ, v, L, h, hs => by
    simp only [D.solid] at hs
    simp only [RD] at h ⊢
    obtain ⟨h0, us, h1, h2⟩ := h
    exact ⟨h0, us, h1, RDs.solid cs 0 ρ us [] h2 hs⟩
theorem RDs.solid {F F' : Nat → Prop} {w : World} : ∀ (ds : List D) (k : Nat) (ρ : Rho) (us : List Value) (L : List Nat), RDs F w ds k ρ us L → D.solids ds = true → RDs F' w ds k ρ us L
  | [], _, _, _, _, h, _ => by simpa only [RDs] using h
  | d :: ds, k, ρ, us, L, h, hs => by
    simp only [D.solids, Bool.and_eq_true] at hs
    simp only [RDs] at h ⊢
    obtain ⟨u, us', L1, L2, rfl, rfl, h1, h2⟩ := h
    exact ⟨u, us', L1, L2, rfl, rfl, RD.solid d _ u L1 h1 hs.1, RDs.solid ds (k + 1) ρ us' L2 h2 hs.2⟩
end

theorem Rho.at_upd_same (ρ ρ' : Rho) (k : Nat) : (ρ.upd k ρ').at k = ρ' := by funext π; simp [Rho.at, Rho.upd]
theorem Rho.at_upd_other (ρ ρ' : Rho) (k j : Nat) (h : j ≠ k) : (ρ.upd k ρ').at j = ρ.at j := by funext π; simp [Rho.at, Rho.upd, h]

mutual
/-- Of the map of places only what lies below the datum matters. -/
theorem RD.rho {F : Nat → Prop} {w : World} : ∀ (d : D) (ρ ρ' : Rho) (v : Value) (L : List Nat), RD F w d ρ v L → (∀ π, ρ' π = ρ π) → RD F w d ρ' v L
  | d, ρ, ρ', v, L, h, e => by have : ρ' = ρ := funext e; rw [this]; exact h
theorem RDs.rho {F : Nat → Prop} {w : World} : ∀ (ds : List D) (k : Nat) (ρ ρ' : Rho) (us : List Value) (L : List Nat), RDs F w ds k ρ us L → (∀ j, k ≤ j → ρ'.at j = ρ.at j) → RDs F w ds k ρ' us L
  | [], _, _, _, _, _, h, _ => by simpa only [RDs] using h
  | d :: ds, k, ρ, ρ', us, L, h, e => by
    simp only [RDs] at h ⊢
    obtain ⟨u, us', L1, L2, rfl, rfl, h1, h2⟩ := h
    exact ⟨u, us', L1, L2, rfl, rfl, by rw [e k (Nat.le_refl _)]; exact h1, RDs.rho ds (k + 1) ρ ρ' us' L2 h2 (fun j hj => e j (by omega))⟩
end

/-- One cell among many: what it is, and what may stand in its place. -/
theorem RDs.at {F : Nat → Prop} {w : World} : ∀ (cs : List D) (k : Nat) (ρ : Rho) (us : List Value) (L : List Nat), RDs F w cs k ρ us L → ∀ (j : Nat) (d : D), cs[j]? = some d →
    ∃ u A L1 B, us[j]? = some u ∧ L = A ++ (L1 ++ B) ∧ RD F w d (ρ.at (k + j)) u L1 ∧
      ∀ (w' : World) (d' : D) (ρ' : Rho) (u' : Value) (L1' : List Nat), (∀ g, F g → Same w w' g) → (∀ g, g ∈ A ∨ g ∈ B → Same w w' g) → RD F w' d' ρ' u' L1' →
        RDs F w' (cs.set j d') k (ρ.upd (k + j) ρ') (us.set j u') (A ++ (L1' ++ B))
  | [], _, _, _, _, _, j, d, hd => by simp at hd
  | c :: cs, k, ρ, us, L, h, 0, d, hd => by
    simp only [RDs] at h
    obtain ⟨u, us', L1, L2, rfl, rfl, h1, h2⟩ := h
    simp only [List.getElem?_cons_zero, Option.some.injEq] at hd
    subst hd
    refine ⟨u, [], L1, L2, rfl, rfl, h1, fun w' d' ρ' u' L1' hF hAB hd' => ?_⟩
    simp only [List.set_cons_zero, RDs, List.nil_append]
    refine ⟨u', us', L1', L2, rfl, rfl, by rw [Nat.add_zero, Rho.at_upd_same]; exact hd', ?_⟩
    exact RDs.rho cs (k + 1) ρ _ us' L2 (RDs.same (fun _ h => h) hF cs (k + 1) ρ us' L2 h2 (fun g hg => hAB g (.inr hg))) (fun j hj => Rho.at_upd_other _ _ _ _ (by omega))
  | c :: cs, k, ρ, us, L, h, j + 1, d, hd => by
    simp only [RDs] at h
    obtain ⟨u, us', L1, L2, rfl, rfl, h1, h2⟩ := h
    simp only [List.getElem?_cons_succ] at hd
    obtain ⟨v, A, M, B, hv, rfl, hM, hput⟩ := RDs.at cs (k + 1) ρ us' L2 h2 j d hd
    have ek : k + 1 + j = k + (j + 1) := by omega
    rw [ek] at hM
    refine ⟨v, L1 ++ A, M, B, by simpa using hv, by simp, hM, fun w' d' ρ' u' L1' hF hAB hd' => ?_⟩
    simp only [List.set_cons_succ, RDs]
    refine ⟨u, us'.set j u', L1, A ++ (L1' ++ B), rfl, by simp, ?_, ?_⟩
    · rw [Rho.at_upd_other _ _ _ _ (by omega)]
      exact RD.same (fun _ h => h) hF c _ u L1 h1 (fun g hg => hAB g (.inl (by simp [hg])))
    · have := hput w' d' ρ' u' L1' hF (fun g hg => hAB g (by rcases hg with hg | hg <;> simp [hg])) hd'
      rw [ek] at this
      exact this

/-- The cells of a datum that has some. -/
def D.kids : D → Option (List D)
  | .sl true _ cs => some cs
  | .pt true cs => some cs
  | _ => none
def D.withKids : D → List D → D
  | .sl true sz _, cs => .sl true sz cs
  | .pt true _, cs => .pt true cs
  | d, _ => d
def D.nav : D → List Nat → Option D
  | d, [] => some d
  | d, k :: π => match d.kids with
    | some cs => match cs[k]? with
      | some c => c.nav π
      | none => none
    | none => none
def D.put : D → List Nat → D → D
  | _, [], d' => d'
  | d, k :: π, d' => match d.kids with
    | some cs => match cs[k]? with
      | some c => d.withKids (cs.set k (c.put π d'))
      | none => d
    | none => d
def Rho.sub (ρ : Rho) (π : List Nat) : Rho := fun q => ρ (π ++ q)
def Rho.set : Rho → List Nat → Rho → Rho
  | _, [], ρ' => ρ'
  | ρ, k :: π, ρ' => ρ.upd k ((ρ.at k).set π ρ')

theorem Rho.upd_at (ρ : Rho) (k : Nat) : ρ.upd k (ρ.at k) = ρ := by
  funext π; cases π with
  | nil => rfl
  | cons j π => simp only [Rho.upd, Rho.at]; split <;> simp_all
theorem Rho.upd_nil (ρ ρ' : Rho) (k : Nat) : (ρ.upd k ρ') [] = ρ [] := rfl

/-- A datum within a datum: what it is, and what may stand in its place. -/
theorem RD.focus {F : Nat → Prop} {w : World} : ∀ (π : List Nat) (d : D) (ρ : Rho) (v : Value) (L : List Nat), RD F w d ρ v L → ∀ d1, d.nav π = some d1 →
    ∃ v1 A L1 B, L = A ++ (L1 ++ B) ∧ RD F w d1 (ρ.sub π) v1 L1 ∧
      ∀ (w' : World) (d1' : D) (ρ1' : Rho) (L1' : List Nat), (∀ g, F g → Same w w' g) → (∀ g, g ∈ A ∨ g ∈ B → Same w w' g) → RD F w' d1' ρ1' v1 L1' →
        RD F w' (d.put π d1') (ρ.set π ρ1') v (A ++ (L1' ++ B))
  | [], d, ρ, v, L, h, d1, hd => by
    simp only [D.nav, Option.some.injEq] at hd
    subst hd
    exact ⟨v, [], L, [], by simp, h, fun w' d1' ρ1' L1' _ _ hd' => by simpa [D.put, Rho.set] using hd'⟩
  | k :: π, .sl true sz cs, ρ, v, L, h, d1, hd => by
    simp only [D.nav, D.kids] at hd
    cases hc : cs[k]? with
    | none => simp [hc] at hd
    | some c =>
      simp only [hc] at hd
      simp only [RD] at h
      obtain ⟨h0, us, L0, L1, rfl, h1, h2⟩ := h
      obtain ⟨u, A, M, B, hu, rfl, hM, hput⟩ := RDs.at cs 0 ρ us L1 h2 k c hc
      rw [Nat.zero_add] at hM
      obtain ⟨v1, A', M', B', rfl, hM', hput'⟩ := RD.focus π c (ρ.at k) u M hM d1 hd
      refine ⟨v1, L0 ++ (A ++ A'), M', B' ++ B, by simp, hM', fun w' d1' ρ1' L1' hF hAB hd' => ?_⟩
      have e := hput' w' d1' ρ1' L1' hF (fun g hg => hAB g (by rcases hg with hg | hg <;> simp [hg])) hd'
      have f := hput w' _ _ u _ hF (fun g hg => hAB g (by rcases hg with hg | hg <;> simp [hg])) e
      have hus : us.set k u = us := by
        obtain ⟨hk, rfl⟩ := List.getElem?_eq_some_iff.1 hu
        simp
      rw [hus, Nat.zero_add] at f
      simp only [D.put, D.kids, hc, D.withKids, RD, Rho.set]
      exact ⟨h0, us, L0, A ++ ((A' ++ (L1' ++ B')) ++ B), by simp, h1.same (fun g hg => hAB g (by simp [hg])), f⟩
  | k :: π, .pt true cs, ρ, v, L, h, d1, hd => by
    simp only [D.nav, D.kids] at hd
    cases hc : cs[k]? with
    | none => simp [hc] at hd
    | some c =>
      simp only [hc] at hd
      simp only [RD] at h
      obtain ⟨h0, g, us, L1, e, h1, rfl, h2, h3⟩ := h
      obtain ⟨u, A, M, B, hu, rfl, hM, hput⟩ := RDs.at cs 0 ρ us L1 h3 k c hc
      rw [Nat.zero_add] at hM
      obtain ⟨v1, A', M', B', rfl, hM', hput'⟩ := RD.focus π c (ρ.at k) u M hM d1 hd
      refine ⟨v1, g :: (A ++ A'), M', B' ++ B, by simp, hM', fun w' d1' ρ1' L1' hF hAB hd' => ?_⟩
      have e1 := hput' w' d1' ρ1' L1' hF (fun g hg => hAB g (by rcases hg with hg | hg <;> simp [hg])) hd'
      have f := hput w' _ _ u _ hF (fun g hg => hAB g (by rcases hg with hg | hg <;> simp [hg])) e1
      have hus : us.set k u = us := by
        obtain ⟨hk, rfl⟩ := List.getElem?_eq_some_iff.1 hu
        simp
      rw [hus, Nat.zero_add] at f
      simp only [D.put, D.kids, hc, D.withKids, RD, Rho.set]
      exact ⟨h0, g, us, A ++ ((A' ++ (L1' ++ B')) ++ B), e, h1, by simp, (hAB g (by simp)).trans h2, f⟩
  | k :: π, .lit u, _, _, _, _, d1, hd => by simp [D.nav, D.kids] at hd
  | k :: π, .hole, _, _, _, _, d1, hd => by simp [D.nav, D.kids] at hd
  | k :: π, .sl false sz cs, _, _, _, _, d1, hd => by simp [D.nav, D.kids] at hd
  | k :: π, .fn _ cs, _, _, _, _, d1, hd => by simp [D.nav, D.kids] at hd
  | k :: π, .pt false cs, _, _, _, _, d1, hd => by simp [D.nav, D.kids] at hd

end Go.Pv
