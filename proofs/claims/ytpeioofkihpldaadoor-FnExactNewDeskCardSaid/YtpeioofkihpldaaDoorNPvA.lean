/- One operation of a region, as a step from what the slots hold to what they hold behind it: plain operations, reading, new memory. No condition. -/
import Derived.WalkKit
set_option linter.unusedVariables false
set_option linter.unusedSimpArgs false
namespace Go.Pv
open Go.RowKit
inductive D where
 | lit (v : Value)
 | sl (own : Bool) (sz : Nat) (cs : List D)
 | pt (own : Bool) (cs : List D)
 | hole
 | fn (g : FuncId) (cs : List D)
mutual
def D.erase : D → D
 | .lit v => .lit v
 | .sl _ sz cs => .sl false sz (D.erases cs)
 | .pt _ cs => .pt false (D.erases cs)
 | .fn g cs => .fn g (D.erases cs)
 | .hole => .hole
def D.erases : List D → List D
 | [] => []
 | d :: ds => d.erase :: D.erases ds
end
theorem D.erases_eq (l : List D) : D.erases l = l.map D.erase := by
 induction l with
 | nil => rfl
 | cons d ds ih => simp [D.erases, ih]
def Same (w w' : World) (g : Nat) : Prop := w'.heap[g]? = w.heap[g]?
abbrev Rho := List Nat → Value
def Rho.at (ρ : Rho) (k : Nat) : Rho := fun π => ρ (k :: π)
def Rho.upd (ρ : Rho) (k : Nat) (ρ' : Rho) : Rho := fun π => match π with
 | [] => ρ []
 | j :: π' => if j = k then ρ' π' else ρ (j :: π')
def Row (w : World) (v : Value) (sz : Nat) (us : List Value) (L : List Nat) : Prop :=
 (v = .slice none 0 0 ∧ us = [] ∧ L = []) ∨
 ∃ g o n cap cur e, v = .slice (some ⟨g, o, none⟩) n cap ∧ w.heap[g]? = some (.cells cur e (0, 0)) ∧ n * sz = us.length ∧ n ≤ cap ∧ cap ≤ maxLen ∧
  o + cap * sz ≤ cur.size ∧ (cur.toList.drop o).take (n * sz) = us ∧ L = [g]
theorem Row.mk0 {w : World} {v : Value} {sz : Nat} {us : List Value} {L : List Nat} (h : ∃ g n cap cur e, v = .slice (some ⟨g, 0, none⟩) n cap ∧ w.heap[g]? = some (.cells cur e (0, 0)) ∧ n * sz = us.length ∧ n ≤ cap ∧ cap ≤ maxLen ∧
  cur.size = cap * sz ∧ cur.toList.take (n * sz) = us ∧ L = [g]) : Row w v sz us L := by
 obtain ⟨g, n, cap, cur, e, h1, h2, h3, h4, h5, h6, h7, h8⟩ := h
 exact .inr ⟨g, 0, n, cap, cur, e, h1, h2, h3, h4, h5, by rw [Nat.zero_add]; exact Nat.le_of_eq h6.symm, h7, h8⟩
theorem addr_off (g o j : Nat) : (⟨g, o, none⟩ : Addr).add j = ⟨g, o + j, none⟩ := by
 unfold Addr.add
 split <;> simp_all
theorem cell_off {w : World} {g o m : Nat} {cur : Array Value} {e : TypeId} {us : List Value} (h2 : w.heap[g]? = some (.cells cur e (0, 0))) (h7 : (cur.toList.drop o).take m = us) {j : Nat} {u : Value} (hu : us[j]? = some u) : w.cell? ⟨g, o + j, none⟩ = some u := by
 rw [cell_of_row w g (o + j) cur e (0, 0) h2]
 rw [← h7, List.getElem?_take] at hu
 split at hu
 ·rw [List.getElem?_drop] at hu
  simpa using hu
 ·cases hu
def ShRow (F : Nat → Prop) (w : World) (v : Value) (sz : Nat) (us : List Value) : Prop :=
 ∃ a n cap, v = .slice a n cap ∧ n * sz = us.length ∧ n ≤ cap ∧ cap ≤ maxLen ∧
  (us ≠ [] → ∃ b, a = some b ∧ F b.block ∧ ∀ (j : Nat) (u : Value), us[j]? = some u → w.cell? (b.add j) = some u)
mutual
def RD (F : Nat → Prop) (w : World) : D → Rho → Value → List Nat → Prop
 | .lit u, _, v, L => v = u ∧ u.oneCell' = true ∧ L = []
 | .hole, ρ, v, L => v = ρ [] ∧ v.oneCell' = true ∧ L = []
 | .sl true sz cs, ρ, v, L => v = ρ [] ∧ ∃ us L0 L1, L = L0 ++ L1 ∧ Row w v sz us L0 ∧ RDs F w cs 0 ρ us L1
 | .sl false sz cs, ρ, v, L => L = [] ∧ ∃ us, ShRow F w v sz us ∧ RDs F w cs 0 ρ us []
 | .pt true cs, ρ, v, L => v = ρ [] ∧ ∃ g us L1 e, v = .pointer (some ⟨g, 0, none⟩) ∧ L = g :: L1 ∧ w.heap[g]? = some (.cells us.toArray e (0, 0)) ∧ RDs F w cs 0 ρ us L1
 | .pt false cs, ρ, v, L => L = [] ∧ ∃ b us, v = .pointer (some b) ∧ F b.block ∧ (∀ (j : Nat) (u : Value), us[j]? = some u → w.cell? (b.add j) = some u) ∧ RDs F w cs 0 ρ us []
 | .fn g cs, ρ, v, L => L = [] ∧ ∃ us, v = .func (.func g) #[] us.toArray ∧ RDs F w cs 0 ρ us []
def RDs (F : Nat → Prop) (w : World) : List D → Nat → Rho → List Value → List Nat → Prop
 | [], _, _, us, L => us = [] ∧ L = []
 | d :: ds, k, ρ, us, L => ∃ u us' L1 L2, us = u :: us' ∧ L = L1 ++ L2 ∧ RD F w d (ρ.at k) u L1 ∧ RDs F w ds (k + 1) ρ us' L2
end
theorem RDs.length {F : Nat → Prop} {w : World} : ∀ {cs : List D} {k : Nat} {ρ : Rho} {us : List Value} {L : List Nat}, RDs F w cs k ρ us L → us.length = cs.length
 | [], _, _, _, _, h => by simp only [RDs] at h; simp [h.1]
 | d :: ds, k, ρ, us, L, h => by
  simp only [RDs] at h
  obtain ⟨u, us', L1, L2, rfl, _, _, h2⟩ := h
  simp [RDs.length h2]
theorem Row.same {w w' : World} {v : Value} {sz : Nat} {us : List Value} {L : List Nat} (h : Row w v sz us L) (hs : ∀ g ∈ L, Same w w' g) : Row w' v sz us L := by
 rcases h with h | ⟨g, o, n, cap, cur, e, h1, h2, h3, h4, h5, h6, h7, rfl⟩
 ·exact .inl h
 ·exact .inr ⟨g, o, n, cap, cur, e, h1, (hs g (by simp)).trans h2, h3, h4, h5, h6, h7, rfl⟩
theorem cell_same {w w' : World} {a : Addr} (h : Same w w' a.block) : w'.cell? a = w.cell? a := by
 unfold Same at h; simp [World.cell?, h]
theorem add_block (b : Addr) (j : Nat) : (b.add j).block = b.block := by unfold Addr.add; split <;> rfl
theorem ShRow.same {F F' : Nat → Prop} {w w' : World} {v : Value} {sz : Nat} {us : List Value} (h : ShRow F w v sz us) (hF : ∀ g, F g → F' g) (hs : ∀ g, F g → Same w w' g) : ShRow F' w' v sz us := by
 obtain ⟨a, n, cap, h1, h2, h3, h4, h5⟩ := h
 refine ⟨a, n, cap, h1, h2, h3, h4, fun hne => ?_⟩
 obtain ⟨b, rfl, hb, hc⟩ := h5 hne
 exact ⟨b, rfl, hF _ hb, fun j u hu => (cell_same (by rw [add_block]; exact hs _ hb)).trans (hc j u hu)⟩
mutual
theorem RD.same {F F' : Nat → Prop} {w w' : World} (hF : ∀ g, F g → F' g) (hs : ∀ g, F g → Same w w' g) :
  ∀ (d : D) (ρ : Rho) (v : Value) (L : List Nat), RD F w d ρ v L → (∀ g ∈ L, Same w w' g) → RD F' w' d ρ v L
 | .lit u, _, _, _, h, _ => by simpa only [RD] using h
 | .hole, _, _, _, h, _ => by simpa only [RD] using h
 | .sl true sz cs, ρ, v, L, h, hL => by
  simp only [RD] at h ⊢
  obtain ⟨h0, us, L0, L1, rfl, h1, h2⟩ := h
  exact ⟨h0, us, L0, L1, rfl, h1.same (fun g hg => hL g (by simp [hg])), RDs.same hF hs cs 0 ρ us L1 h2 (fun g hg => hL g (by simp [hg]))⟩
 | .sl false sz cs, ρ, v, L, h, _ => by
  simp only [RD] at h ⊢
  obtain ⟨h0, us, h1, h2⟩ := h
  exact ⟨h0, us, h1.same hF hs, RDs.same hF hs cs 0 ρ us [] h2 (fun g hg => by simp at hg)⟩
 | .pt true cs, ρ, v, L, h, hL => by
  simp only [RD] at h ⊢
  obtain ⟨h0, g, us, L1, e, h1, rfl, h2, h3⟩ := h
  exact ⟨h0, g, us, L1, e, h1, rfl, (hL g (by simp)).trans h2, RDs.same hF hs cs 0 ρ us L1 h3 (fun g hg => hL g (by simp [hg]))⟩
 | .pt false cs, ρ, v, L, h, _ => by
  simp only [RD] at h ⊢
  obtain ⟨h0, b, us, h1, h2, h3, h4⟩ := h
  exact ⟨h0, b, us, h1, hF _ h2, fun j u hu => (cell_same (by rw [add_block]; exact hs _ h2)).trans (h3 j u hu), RDs.same hF hs cs 0 ρ us [] h4 (fun g hg => by simp at hg)⟩
 | .fn g cs, ρ, v, L, h, _ => by
  simp only [RD] at h ⊢
  obtain ⟨h0, us, h1, h2⟩ := h
  exact ⟨h0, us, h1, RDs.same hF hs cs 0 ρ us [] h2 (fun g hg => by simp at hg)⟩
theorem RDs.same {F F' : Nat → Prop} {w w' : World} (hF : ∀ g, F g → F' g) (hs : ∀ g, F g → Same w w' g) :
  ∀ (ds : List D) (k : Nat) (ρ : Rho) (us : List Value) (L : List Nat), RDs F w ds k ρ us L → (∀ g ∈ L, Same w w' g) → RDs F' w' ds k ρ us L
 | [], _, _, _, _, h, _ => by simpa only [RDs] using h
 | d :: ds, k, ρ, us, L, h, hL => by
  simp only [RDs] at h ⊢
  obtain ⟨u, us', L1, L2, rfl, rfl, h1, h2⟩ := h
  exact ⟨u, us', L1, L2, rfl, rfl, RD.same hF hs d _ u L1 h1 (fun g hg => hL g (by simp [hg])), RDs.same hF hs ds (k + 1) ρ us' L2 h2 (fun g hg => hL g (by simp [hg]))⟩
end
mutual
theorem RD.erase {F F' : Nat → Prop} {w : World} (hF : ∀ g, F g → F' g) :
  ∀ (d : D) (ρ : Rho) (v : Value) (L : List Nat), RD F w d ρ v L → (∀ g ∈ L, F' g) → RD F' w d.erase ρ v []
 | .lit u, _, _, _, h, _ => by simp only [RD, D.erase] at h ⊢; exact ⟨h.1, h.2.1, trivial⟩
 | .hole, _, _, _, h, _ => by simp only [RD, D.erase] at h ⊢; exact ⟨h.1, h.2.1, trivial⟩
 | .sl true sz cs, ρ, v, L, h, hL => by
  simp only [RD, D.erase] at h ⊢
  obtain ⟨h0, us, L0, L1, rfl, h1, h2⟩ := h
  refine ⟨trivial, us, ?_, RDs.erase hF cs 0 ρ us L1 h2 (fun g hg => hL g (by simp [hg]))⟩
  rcases h1 with ⟨rfl, rfl, rfl⟩ | ⟨g, o, n, cap, cur, e, h1, h2, h3, h4, h5, h6, h7, rfl⟩
  ·exact ⟨none, 0, 0, rfl, by simp, Nat.le_refl _, Nat.zero_le _, fun h => absurd rfl h⟩
  ·refine ⟨some ⟨g, o, none⟩, n, cap, h1, h3, h4, h5, fun _ => ⟨_, rfl, hL g (by simp), fun j u hu => ?_⟩⟩
   rw [addr_off]
   exact cell_off h2 h7 hu
 | .sl false sz cs, ρ, v, L, h, _ => by
  simp only [RD, D.erase] at h ⊢
  obtain ⟨h0, us, h1, h2⟩ := h
  exact ⟨trivial, us, h1.same hF (fun _ _ => rfl), RDs.erase hF cs 0 ρ us [] h2 (fun g hg => by simp at hg)⟩
 | .pt true cs, ρ, v, L, h, hL => by
  simp only [RD, D.erase] at h ⊢
  obtain ⟨h0, g, us, L1, e, h1, rfl, h2, h3⟩ := h
  refine ⟨trivial, ⟨g, 0, none⟩, us, h1, hL g (by simp), fun j u hu => ?_, RDs.erase hF cs 0 ρ us L1 h3 (fun g hg => hL g (by simp [hg]))⟩
  have hadd : (⟨g, 0, none⟩ : Addr).add j = ⟨g, j, none⟩ := by unfold Addr.add; split <;> simp_all
  rw [hadd, cell_of_row w g j us.toArray e (0, 0) h2]
  simpa using hu
 | .pt false cs, ρ, v, L, h, _ => by
  simp only [RD, D.erase] at h ⊢
  obtain ⟨h0, b, us, h1, h2, h3, h4⟩ := h
  exact ⟨trivial, b, us, h1, hF _ h2, h3, RDs.erase hF cs 0 ρ us [] h4 (fun g hg => by simp at hg)⟩
 | .fn g cs, ρ, v, L, h, _ => by
  simp only [RD, D.erase] at h ⊢
  obtain ⟨h0, us, h1, h2⟩ := h
  exact ⟨trivial, us, h1, RDs.erase hF cs 0 ρ us [] h2 (fun g hg => by simp at hg)⟩
theorem RDs.erase {F F' : Nat → Prop} {w : World} (hF : ∀ g, F g → F' g) :
  ∀ (ds : List D) (k : Nat) (ρ : Rho) (us : List Value) (L : List Nat), RDs F w ds k ρ us L → (∀ g ∈ L, F' g) → RDs F' w (D.erases ds) k ρ us []
 | [], _, _, _, _, h, _ => by simp only [RDs, D.erases] at h ⊢; exact ⟨h.1, trivial⟩
 | d :: ds, k, ρ, us, L, h, hL => by
  simp only [RDs, D.erases] at h ⊢
  obtain ⟨u, us', L1, L2, rfl, rfl, h1, h2⟩ := h
  exact ⟨u, us', [], [], rfl, rfl, RD.erase hF d _ u L1 h1 (fun g hg => hL g (by simp [hg])), RDs.erase hF ds (k + 1) ρ us' L2 h2 (fun g hg => hL g (by simp [hg]))⟩
end
mutual
def D.solid : D → Bool
 | .lit _ | .hole => true
 | .sl own _ cs | .pt own cs => own && D.solids cs
 | .fn _ cs => D.solids cs
def D.solids : List D → Bool
 | [] => true
 | d :: ds => d.solid && D.solids ds
end
mutual
theorem RD.solid {F F' : Nat → Prop} {w : World} : ∀ (d : D) (ρ : Rho) (v : Value) (L : List Nat), RD F w d ρ v L → d.solid = true → RD F' w d ρ v L
 | .lit u, _, _, _, h, _ => by simpa only [RD] using h
 | .hole, _, _, _, h, _ => by simpa only [RD] using h
 | .sl true sz cs, ρ, v, L, h, hs => by
  simp only [D.solid, Bool.true_and] at hs
  simp only [RD] at h ⊢
  obtain ⟨h0, us, L0, L1, rfl, h1, h2⟩ := h
  exact ⟨h0, us, L0, L1, rfl, h1, RDs.solid cs 0 ρ us L1 h2 hs⟩
 | .sl false sz cs, ρ, v, L, h, hs => by simp [D.solid] at hs
 | .pt true cs, ρ, v, L, h, hs => by
  simp only [D.solid, Bool.true_and] at hs
  simp only [RD] at h ⊢
  obtain ⟨h0, g, us, L1, e, h1, rfl, h2, h3⟩ := h
  exact ⟨h0, g, us, L1, e, h1, rfl, h2, RDs.solid cs 0 ρ us L1 h3 hs⟩
 | .pt false cs, ρ, v, L, h, hs => by simp [D.solid] at hs
 | .fn g cs, ρ, v, L, h, hs => by
  simp only [D.solid] at hs
  simp only [RD] at h ⊢
  obtain ⟨h0, us, h1, h2⟩ := h
  exact ⟨h0, us, h1, RDs.solid cs 0 ρ us [] h2 hs⟩
theorem RDs.solid {F F' : Nat → Prop} {w : World} : ∀ (ds : List D) (k : Nat) (ρ : Rho) (us : List Value) (L : List Nat), RDs F w ds k ρ us L → D.solids ds = true → RDs F' w ds k ρ us L
 | [], _, _, _, _, h, _ => by simpa only [RDs] using h
 | d :: ds, k, ρ, us, L, h, hs => by
  simp only [D.solids, Bool.and_eq_true] at hs
  simp only [RDs] at h ⊢
  obtain ⟨u, us', L1, L2, rfl, rfl, h1, h2⟩ := h
  exact ⟨u, us', L1, L2, rfl, rfl, RD.solid d _ u L1 h1 hs.1, RDs.solid ds (k + 1) ρ us' L2 h2 hs.2⟩
end
theorem Rho.at_upd_same (ρ ρ' : Rho) (k : Nat) : (ρ.upd k ρ').at k = ρ' := by funext π; simp [Rho.at, Rho.upd]
theorem Rho.at_upd_other (ρ ρ' : Rho) (k j : Nat) (h : j ≠ k) : (ρ.upd k ρ').at j = ρ.at j := by funext π; simp [Rho.at, Rho.upd, h]
mutual
theorem RD.rho {F : Nat → Prop} {w : World} : ∀ (d : D) (ρ ρ' : Rho) (v : Value) (L : List Nat), RD F w d ρ v L → (∀ π, ρ' π = ρ π) → RD F w d ρ' v L
 | d, ρ, ρ', v, L, h, e => by have : ρ' = ρ := funext e; rw [this]; exact h
theorem RDs.rho {F : Nat → Prop} {w : World} : ∀ (ds : List D) (k : Nat) (ρ ρ' : Rho) (us : List Value) (L : List Nat), RDs F w ds k ρ us L → (∀ j, k ≤ j → ρ'.at j = ρ.at j) → RDs F w ds k ρ' us L
 | [], _, _, _, _, _, h, _ => by simpa only [RDs] using h
 | d :: ds, k, ρ, ρ', us, L, h, e => by
  simp only [RDs] at h ⊢
  obtain ⟨u, us', L1, L2, rfl, rfl, h1, h2⟩ := h
  exact ⟨u, us', L1, L2, rfl, rfl, by rw [e k (Nat.le_refl _)]; exact h1, RDs.rho ds (k + 1) ρ ρ' us' L2 h2 (fun j hj => e j (by omega))⟩
end
theorem RDs.at {F : Nat → Prop} {w : World} : ∀ (cs : List D) (k : Nat) (ρ : Rho) (us : List Value) (L : List Nat), RDs F w cs k ρ us L → ∀ (j : Nat) (d : D), cs[j]? = some d →
  ∃ u A L1 B, us[j]? = some u ∧ L = A ++ (L1 ++ B) ∧ RD F w d (ρ.at (k + j)) u L1 ∧
   ∀ (w' : World) (d' : D) (ρ' : Rho) (u' : Value) (L1' : List Nat), (∀ g, F g → Same w w' g) → (∀ g, g ∈ A ∨ g ∈ B → Same w w' g) → RD F w' d' ρ' u' L1' →
    RDs F w' (cs.set j d') k (ρ.upd (k + j) ρ') (us.set j u') (A ++ (L1' ++ B))
 | [], _, _, _, _, _, j, d, hd => by simp at hd
 | c :: cs, k, ρ, us, L, h, 0, d, hd => by
  simp only [RDs] at h
  obtain ⟨u, us', L1, L2, rfl, rfl, h1, h2⟩ := h
  simp only [List.getElem?_cons_zero, Option.some.injEq] at hd
  subst hd
  refine ⟨u, [], L1, L2, rfl, rfl, h1, fun w' d' ρ' u' L1' hF hAB hd' => ?_⟩
  simp only [List.set_cons_zero, RDs, List.nil_append]
  refine ⟨u', us', L1', L2, rfl, rfl, by rw [Nat.add_zero, Rho.at_upd_same]; exact hd', ?_⟩
  exact RDs.rho cs (k + 1) ρ _ us' L2 (RDs.same (fun _ h => h) hF cs (k + 1) ρ us' L2 h2 (fun g hg => hAB g (.inr hg))) (fun j hj => Rho.at_upd_other _ _ _ _ (by omega))
 | c :: cs, k, ρ, us, L, h, j + 1, d, hd => by
  simp only [RDs] at h
  obtain ⟨u, us', L1, L2, rfl, rfl, h1, h2⟩ := h
  simp only [List.getElem?_cons_succ] at hd
  obtain ⟨v, A, M, B, hv, rfl, hM, hput⟩ := RDs.at cs (k + 1) ρ us' L2 h2 j d hd
  have ek : k + 1 + j = k + (j + 1) := by omega
  rw [ek] at hM
  refine ⟨v, L1 ++ A, M, B, by simpa using hv, by simp, hM, fun w' d' ρ' u' L1' hF hAB hd' => ?_⟩
  simp only [List.set_cons_succ, RDs]
  refine ⟨u, us'.set j u', L1, A ++ (L1' ++ B), rfl, by simp, ?_, ?_⟩
  ·rw [Rho.at_upd_other _ _ _ _ (by omega)]
   exact RD.same (fun _ h => h) hF c _ u L1 h1 (fun g hg => hAB g (.inl (by simp [hg])))
  ·have := hput w' d' ρ' u' L1' hF (fun g hg => hAB g (by rcases hg with hg | hg <;> simp [hg])) hd'
   rw [ek] at this
   exact this
def D.kids : D → Option (List D)
 | .sl true _ cs => some cs
 | .pt true cs => some cs
 | _ => none
def D.withKids : D → List D → D
 | .sl true sz _, cs => .sl true sz cs
 | .pt true _, cs => .pt true cs
 | d, _ => d
def D.nav : D → List Nat → Option D
 | d, [] => some d
 | d, k :: π => match d.kids with
  | some cs => match cs[k]? with
   | some c => c.nav π
   | none => none
  | none => none
def D.put : D → List Nat → D → D
 | _, [], d' => d'
 | d, k :: π, d' => match d.kids with
  | some cs => match cs[k]? with
   | some c => d.withKids (cs.set k (c.put π d'))
   | none => d
  | none => d
def Rho.sub (ρ : Rho) (π : List Nat) : Rho := fun q => ρ (π ++ q)
def Rho.set : Rho → List Nat → Rho → Rho
 | _, [], ρ' => ρ'
 | ρ, k :: π, ρ' => ρ.upd k ((ρ.at k).set π ρ')
theorem Rho.upd_at (ρ : Rho) (k : Nat) : ρ.upd k (ρ.at k) = ρ := by
 funext π; cases π with
 | nil => rfl
 | cons j π => simp only [Rho.upd, Rho.at]; split <;> simp_all
theorem RD.focus {F : Nat → Prop} {w : World} : ∀ (π : List Nat) (d : D) (ρ : Rho) (v : Value) (L : List Nat), RD F w d ρ v L → ∀ d1, d.nav π = some d1 →
  ∃ v1 A L1 B, L = A ++ (L1 ++ B) ∧ RD F w d1 (ρ.sub π) v1 L1 ∧
   ∀ (w' : World) (d1' : D) (ρ1' : Rho) (L1' : List Nat), (∀ g, F g → Same w w' g) → (∀ g, g ∈ A ∨ g ∈ B → Same w w' g) → RD F w' d1' ρ1' v1 L1' →
    RD F w' (d.put π d1') (ρ.set π ρ1') v (A ++ (L1' ++ B))
 | [], d, ρ, v, L, h, d1, hd => by
  simp only [D.nav, Option.some.injEq] at hd
  subst hd
  exact ⟨v, [], L, [], by simp, h, fun w' d1' ρ1' L1' _ _ hd' => by simpa [D.put, Rho.set] using hd'⟩
 | k :: π, .sl true sz cs, ρ, v, L, h, d1, hd => by
  simp only [D.nav, D.kids] at hd
  cases hc : cs[k]? with
  | none => simp [hc] at hd
  | some c =>
   simp only [hc] at hd
   simp only [RD] at h
   obtain ⟨h0, us, L0, L1, rfl, h1, h2⟩ := h
   obtain ⟨u, A, M, B, hu, rfl, hM, hput⟩ := RDs.at cs 0 ρ us L1 h2 k c hc
   rw [Nat.zero_add] at hM
   obtain ⟨v1, A', M', B', rfl, hM', hput'⟩ := RD.focus π c (ρ.at k) u M hM d1 hd
   refine ⟨v1, L0 ++ (A ++ A'), M', B' ++ B, by simp, hM', fun w' d1' ρ1' L1' hF hAB hd' => ?_⟩
   have e := hput' w' d1' ρ1' L1' hF (fun g hg => hAB g (by rcases hg with hg | hg <;> simp [hg])) hd'
   have f := hput w' _ _ u _ hF (fun g hg => hAB g (by rcases hg with hg | hg <;> simp [hg])) e
   have hus : us.set k u = us := by
    obtain ⟨hk, rfl⟩ := List.getElem?_eq_some_iff.1 hu
    simp
   rw [hus, Nat.zero_add] at f
   simp only [D.put, D.kids, hc, D.withKids, RD, Rho.set]
   exact ⟨h0, us, L0, A ++ ((A' ++ (L1' ++ B')) ++ B), by simp, h1.same (fun g hg => hAB g (by simp [hg])), f⟩
 | k :: π, .pt true cs, ρ, v, L, h, d1, hd => by
  simp only [D.nav, D.kids] at hd
  cases hc : cs[k]? with
  | none => simp [hc] at hd
  | some c =>
   simp only [hc] at hd
   simp only [RD] at h
   obtain ⟨h0, g, us, L1, e, h1, rfl, h2, h3⟩ := h
   obtain ⟨u, A, M, B, hu, rfl, hM, hput⟩ := RDs.at cs 0 ρ us L1 h3 k c hc
   rw [Nat.zero_add] at hM
   obtain ⟨v1, A', M', B', rfl, hM', hput'⟩ := RD.focus π c (ρ.at k) u M hM d1 hd
   refine ⟨v1, g :: (A ++ A'), M', B' ++ B, by simp, hM', fun w' d1' ρ1' L1' hF hAB hd' => ?_⟩
   have e1 := hput' w' d1' ρ1' L1' hF (fun g hg => hAB g (by rcases hg with hg | hg <;> simp [hg])) hd'
   have f := hput w' _ _ u _ hF (fun g hg => hAB g (by rcases hg with hg | hg <;> simp [hg])) e1
   have hus : us.set k u = us := by
    obtain ⟨hk, rfl⟩ := List.getElem?_eq_some_iff.1 hu
    simp
   rw [hus, Nat.zero_add] at f
   simp only [D.put, D.kids, hc, D.withKids, RD, Rho.set]
   exact ⟨h0, g, us, A ++ ((A' ++ (L1' ++ B')) ++ B), e, h1, by simp, (hAB g (by simp)).trans h2, f⟩
 | k :: π, .lit u, _, _, _, _, d1, hd => by simp [D.nav, D.kids] at hd
 | k :: π, .hole, _, _, _, _, d1, hd => by simp [D.nav, D.kids] at hd
 | k :: π, .sl false sz cs, _, _, _, _, d1, hd => by simp [D.nav, D.kids] at hd
 | k :: π, .fn _ cs, _, _, _, _, d1, hd => by simp [D.nav, D.kids] at hd
 | k :: π, .pt false cs, _, _, _, _, d1, hd => by simp [D.nav, D.kids] at hd
inductive AV where
 | c (d : D)
 | own (id : Nat) (d : D)
 | raw (d : D)
 | als (x id : Nat) (path : List Nat)
 | sub (x id : Nat) (path : List Nat) (sz lo n : Nat)
 | ptr (x id : Nat) (path : List Nat) (off : Nat)
 | sptr (cs : List D) (off : Nat)
 | agg (l : List AV)
 | tup (l : List AV)
 | clo (g : FuncId) (l : List AV)
 | tupn (id : Nat) (l : List AV)
 | tupr (x id : Nat) (l : List AV)
 | dead
mutual
def AV.ids : AV → List Nat
 | .own i _ | .als _ i _ | .sub _ i _ _ _ _ | .ptr _ i _ _ => [i]
 | .agg l | .tup l | .clo _ l => AV.idss l
 | .tupn i l | .tupr _ i l => i :: AV.idss l
 | _ => []
def AV.idss : List AV → List Nat
 | [] => []
 | a :: l => a.ids ++ AV.idss l
end
def baseOf : Value → Option Addr
 | .slice a _ _ => a
 | .pointer a => a
 | _ => none
mutual
def SR (F : Nat → Prop) (w : World) (ρ : Nat → Rho) : AV → Value → List Nat → Prop
 | .c d, v, L => L = [] ∧ ∃ r, RD F w d r v []
 | .own id d, v, L => RD F w d (ρ id) v L
 | .raw d, v, L => ∃ r, RD F w d r v L
 | .als _ id path, v, L => L = [] ∧ v = ρ id path
 | .sub _ id path sz lo n, v, L => L = [] ∧ ∃ a n0 c0 a1 c1, ρ id path = .slice a n0 c0 ∧ v = .slice a1 n c1 ∧ lo + n ≤ n0 ∧ n ≤ c1 ∧ c1 ≤ maxLen ∧ (n ≠ 0 → a.isSome = true ∧ a1 = a.map (·.add (lo * sz)))
 | .ptr _ id path off, v, L => L = [] ∧ ∃ b, baseOf (ρ id path) = some b ∧ v = .pointer (some (b.add off))
 | .sptr cs off, v, L => L = [] ∧ ∃ (b : Addr) (us : List Value) (r : Rho), v = .pointer (some (b.add off)) ∧ F b.block ∧ (∀ (j : Nat) (u : Value), us[j]? = some u → w.cell? (b.add j) = some u) ∧ RDs F w cs 0 r us []
 | .agg l, v, L => ∃ vs, v = .agg vs.toArray ∧ SRs F w ρ l vs L
 | .tup l, v, L => ∃ vs, v = .tuple vs.toArray ∧ SRs F w ρ l vs L
 | .clo g l, v, L => ∃ vs, v = .func (.func g) #[] vs.toArray ∧ SRs F w ρ l vs L
 | .tupn id l, v, L => v = ρ id [] ∧ ∃ vs, v = .tuple vs.toArray ∧ SRs F w ρ l vs L
 | .tupr _ id l, v, L => v = ρ id [] ∧ ∃ vs, v = .tuple vs.toArray ∧ SRs F w ρ l vs L
 | .dead, _, L => L = []
def SRs (F : Nat → Prop) (w : World) (ρ : Nat → Rho) : List AV → List Value → List Nat → Prop
 | [], vs, L => vs = [] ∧ L = []
 | a :: l, vs, L => ∃ v vs' L1 L2, vs = v :: vs' ∧ L = L1 ++ L2 ∧ SR F w ρ a v L1 ∧ SRs F w ρ l vs' L2
end
mutual
theorem SR.same {F F' : Nat → Prop} {w w' : World} {ρ ρ' : Nat → Rho} (hF : ∀ g, F g → F' g) (hs : ∀ g, F g → Same w w' g) :
  ∀ (a : AV) (v : Value) (L : List Nat), SR F w ρ a v L → (∀ g ∈ L, Same w w' g) → (∀ i ∈ a.ids, ρ' i = ρ i) → SR F' w' ρ' a v L
 | .c d, v, L, h, _, _ => by
  simp only [SR] at h ⊢
  obtain ⟨h1, r, h3⟩ := h
  exact ⟨h1, r, RD.same hF hs d r v [] h3 (fun g hg => by simp at hg)⟩
 | .own id d, v, L, h, hL, hi => by
  simp only [SR] at h ⊢
  rw [hi id (by simp [AV.ids])]
  exact RD.same hF hs d _ v L h hL
 | .raw d, v, L, h, hL, _ => by
  simp only [SR] at h ⊢
  obtain ⟨r, h⟩ := h
  exact ⟨r, RD.same hF hs d r v L h hL⟩
 | .als x id p, v, L, h, _, hi => by
  simp only [SR] at h ⊢
  rw [hi id (by simp [AV.ids])]; exact h
 | .sub x id p sz lo n, v, L, h, _, hi => by
  simp only [SR] at h ⊢
  rw [hi id (by simp [AV.ids])]; exact h
 | .ptr x id p o, v, L, h, _, hi => by
  simp only [SR] at h ⊢
  rw [hi id (by simp [AV.ids])]; exact h
 | .sptr cs o, v, L, h, _, _ => by
  simp only [SR] at h ⊢
  obtain ⟨h1, b, us, r, h3, h4, h5, h6⟩ := h
  exact ⟨h1, b, us, r, h3, hF _ h4, fun j u hu => (cell_same (by rw [add_block]; exact hs _ h4)).trans (h5 j u hu), RDs.same hF hs cs 0 r us [] h6 (fun g hg => by simp at hg)⟩
 | .agg l, v, L, h, hL, hi => by
  simp only [SR] at h ⊢
  obtain ⟨vs, h1, h2⟩ := h
  exact ⟨vs, h1, SRs.same hF hs l vs L h2 hL (by simpa only [AV.ids] using hi)⟩
 | .tup l, v, L, h, hL, hi => by
  simp only [SR] at h ⊢
  obtain ⟨vs, h1, h2⟩ := h
  exact ⟨vs, h1, SRs.same hF hs l vs L h2 hL (by simpa only [AV.ids] using hi)⟩
 | .clo g l, v, L, h, hL, hi => by
  simp only [SR] at h ⊢
  obtain ⟨vs, h1, h2⟩ := h
  exact ⟨vs, h1, SRs.same hF hs l vs L h2 hL (by simpa only [AV.ids] using hi)⟩
 | .tupn id l, v, L, h, hL, hi => by
  simp only [SR] at h ⊢
  obtain ⟨h0, vs, h1, h2⟩ := h
  exact ⟨by rw [hi id (by simp [AV.ids])]; exact h0, vs, h1, SRs.same hF hs l vs L h2 hL (fun i h => hi i (by simp [AV.ids, h]))⟩
 | .tupr x id l, v, L, h, hL, hi => by
  simp only [SR] at h ⊢
  obtain ⟨h0, vs, h1, h2⟩ := h
  exact ⟨by rw [hi id (by simp [AV.ids])]; exact h0, vs, h1, SRs.same hF hs l vs L h2 hL (fun i h => hi i (by simp [AV.ids, h]))⟩
 | .dead, v, L, h, _, _ => by simpa only [SR] using h
theorem SRs.same {F F' : Nat → Prop} {w w' : World} {ρ ρ' : Nat → Rho} (hF : ∀ g, F g → F' g) (hs : ∀ g, F g → Same w w' g) :
  ∀ (l : List AV) (vs : List Value) (L : List Nat), SRs F w ρ l vs L → (∀ g ∈ L, Same w w' g) → (∀ i ∈ AV.idss l, ρ' i = ρ i) → SRs F' w' ρ' l vs L
 | [], _, _, h, _, _ => by simpa only [SRs] using h
 | a :: l, vs, L, h, hL, hi => by
  simp only [SRs] at h ⊢
  obtain ⟨v, vs', L1, L2, rfl, rfl, h1, h2⟩ := h
  simp only [AV.idss, List.mem_append] at hi
  exact ⟨v, vs', L1, L2, rfl, rfl, SR.same hF hs a v L1 h1 (fun g hg => hL g (by simp [hg])) (fun i h => hi i (.inl h)), SRs.same hF hs l vs' L2 h2 (fun g hg => hL g (by simp [hg])) (fun i h => hi i (.inr h))⟩
end
def DrawnOk : Prop := False
structure Keep (w : World) (M : List Nat) (w' : World) : Prop where
 os : w'.os = w.os
 tape : w'.tape = w.tape
 output : w'.output = w.output
 size : w.heap.size ≤ w'.heap.size
 block : ∀ g, g < w.heap.size → g ∉ M → Same w w' g
 drawn : DrawnOk → w.drawn ≤ w'.drawn
theorem Keep.refl (w : World) : Keep w [] w := ⟨rfl, rfl, rfl, Nat.le_refl _, fun _ _ _ => rfl, fun _ => Nat.le_refl _⟩
theorem Keep.trans {a b c : World} {M N : List Nat} (h : Keep a M b) (k : Keep b N c) (hN : ∀ g ∈ N, g < a.heap.size → g ∈ M) : Keep a M c :=
 ⟨k.os.trans h.os, k.tape.trans h.tape, k.output.trans h.output, Nat.le_trans h.size k.size, fun g hg hM =>
  (k.block g (Nat.lt_of_lt_of_le hg h.size) (fun hn => hM (hN g hn hg))).trans (h.block g hg hM), fun q => Nat.le_trans (h.drawn q) (k.drawn q)⟩
theorem Keep.of_grown {w w' : World} {row : Option Nat} (h : w.grownBy w' row) (hd : w.drawn ≤ w'.drawn) : Keep w row.toList w' :=
 ⟨h.os, h.tape, h.output, h.size, fun g hg hM => h.block g hg (by rintro rfl; simp at hM), fun _ => hd⟩
theorem Keep.alloc (w : World) (o : Obj) : Keep w [] (w.alloc o) := Keep.of_grown (World.grownBy_alloc w o none) (Nat.le_refl _)
theorem Keep.drew (w : World) : Keep w [] { w with drawn := w.drawn + 1 } := ⟨rfl, rfl, rfl, Nat.le_refl _, fun _ _ _ => rfl, fun _ => Nat.le_succ _⟩
structure NN where
 fn : Nat → Bool
 K : List (Nat × Value)
 R : List (Nat × Rho)
 S : List (Value × List Int)
instance : CoeFun NN (fun _ => Nat → Bool) := ⟨NN.fn⟩
def tabId : Nat := 1000000007
def tabR (G : Nat) (cs : Array Value) : Nat × Rho := (tabId, fun p => if p = [] then .int .u64 (G : Int) else .agg cs)
def TabZ (G : Nat) (cs : Array Value) (F : Nat → Prop) (w : World) : Prop := F G ∧ ∃ x y, w.heap[G]? = some (.cells cs x y)
def TabAt (F : Nat → Prop) (w : World) (q : Nat × Rho) : Prop := ∃ G cs, q = tabR G cs ∧ TabZ G cs F w
theorem TabAt.mono {F F' : Nat → Prop} {w w' : World} {q : Nat × Rho} (h : TabAt F w q) (hF : ∀ g, F g → F' g) (hs : ∀ g, F g → Same w w' g) : TabAt F' w' q := by
 obtain ⟨G, cs, e, h1, x, y, h2⟩ := h
 exact ⟨G, cs, e, hF G h1, x, y, (hs G h1).trans h2⟩
theorem TabAt.get {F : Nat → Prop} {w : World} {G : Nat} {cs : Array Value} (h : TabAt F w (tabR G cs)) : TabZ G cs F w := by
 obtain ⟨G', cs', e, h1⟩ := h
 have e2 := (Prod.mk.inj e).2
 have a1 := congrFun e2 []
 have a2 := congrFun e2 [0]
 simp at a1 a2
 obtain rfl : G = G' := by omega
 subst a2
 exact h1
structure Fr where
 w0 : World
 M : List Nat
 N : NN
 H : List (Nat × Value)
 /-- The blocks that nobody writes as long as the frame runs, and that its arguments may lie in. -/
 F : Nat → Prop
 hF : ∀ g, F g → g < w0.heap.size ∧ g ∉ M
 /-- The names that some roots keep. -/
 R : List (Nat × Rho) := []
 hK : ∀ q ∈ N.K, q ∈ H
 hR : ∀ q ∈ N.R, (q.1 ≠ tabId → q ∈ R) ∧ (q.1 = tabId → TabAt F w0 q)
 hS : ∀ q ∈ N.S, ShRow F w0 q.1 1 (q.2.map (.int .i64))
def tmp (a : Act) (t : Nat) : Value := a.tmps.getD t undef
structure RepO (f : Fr) (X : Nat → Prop) (st : Nat → AV) (a : Act) (w : World) (ρ : Nat → Rho) (L : Nat → List Nat) : Prop where
 defers : a.defers = []
 size : ∀ d, f.N d = true → d < a.tmps.size
 hold : ∀ q ∈ f.H, f.N q.1 = false ∧ tmp a q.1 = q.2
 keep : Keep f.w0 f.M w
 slots : ∀ t, SR f.F w ρ (st t) (tmp a t) (L t)
 nodup : ∀ t, (L t).Nodup
 disj : ∀ t u, t ≠ u → ∀ g ∈ L t, g ∉ L u
 bound : ∀ t, ∀ g ∈ L t, g < w.heap.size ∧ ¬ f.F g
 ids : ∀ t, ∀ i ∈ (st t).ids, X i
 mine : ∀ t, ∀ g ∈ L t, g ∈ f.M ∨ f.w0.heap.size ≤ g
 names : ∀ q ∈ f.R, X q.1 ∧ ρ q.1 = q.2
def Rep (f : Fr) (X : Nat → Prop) (st : Nat → AV) (a : Act) (w : World) : Prop := ∃ ρ L, RepO f X st a w ρ L
section
variable {f : Fr} {X : Nat → Prop} {st : Nat → AV} {a : Act} {w : World} {ρ : Nat → Rho} {L : Nat → List Nat}
theorem RepO.F_lt (h : RepO f X st a w ρ L) {g : Nat} (hg : f.F g) : g < w.heap.size := Nat.lt_of_lt_of_le (f.hF g hg).1 h.keep.size
theorem RepO.tabR (h : RepO f X st a w ρ L) {F' : Nat → Prop} {w' : World} (hF : ∀ g, f.F g → F' g) (hs : ∀ g, f.F g → Same w w' g) : ∀ q ∈ f.N.R, (q.1 ≠ tabId → q ∈ f.R) ∧ (q.1 = tabId → TabAt F' w' q) :=
 fun q hq => ⟨(f.hR q hq).1, fun e => ((f.hR q hq).2 e).mono hF fun g hg => (hs g hg).trans (h.keep.block g (f.hF g hg).1 (f.hF g hg).2)⟩
theorem RepO.step (h : RepO f X st a w ρ L) (T : Nat → Prop) (Mw : List Nat) (X' : Nat → Prop) (st' : Nat → AV) (a' : Act) (w' : World) (ρ' : Nat → Rho) (L' : Nat → List Nat)
  (hd : a'.defers = a.defers) (hsize : a'.tmps.size = a.tmps.size) (hH : ∀ t, f.N t = false → tmp a' t = tmp a t) (hk : Keep w Mw w') (hM : ∀ g ∈ Mw, ∃ t, T t ∧ g ∈ L t) (hρ : ∀ i, X i → ρ' i = ρ i)
  (hsame : ∀ t, ¬ T t → st' t = st t ∧ tmp a' t = tmp a t ∧ L' t = L t)
  (hnew : ∀ t, T t → SR f.F w' ρ' (st' t) (tmp a' t) (L' t) ∧ (L' t).Nodup ∧ ∀ g ∈ L' t, g < w'.heap.size ∧ ((∃ u, T u ∧ g ∈ L u) ∨ w.heap.size ≤ g))
  (hdisj : ∀ t u, T t → T u → t ≠ u → ∀ g ∈ L' t, g ∉ L' u)
  (hX : ∀ i, X i → X' i) (hids : ∀ t, T t → ∀ i ∈ (st' t).ids, X' i) : RepO f X' st' a' w' ρ' L' := by
 have hF : ∀ g, f.F g → Same w w' g := fun g hg => hk.block g (h.F_lt hg) (fun hm => by
  obtain ⟨t, _, ht⟩ := hM g hm
  exact (h.bound t g ht).2 hg)
 have hL : ∀ t, ¬ T t → ∀ g ∈ L t, Same w w' g := fun t ht g hg => hk.block g (h.bound t g hg).1 (fun hm => by
  obtain ⟨u, hu, hgu⟩ := hM g hm
  exact h.disj t u (by rintro rfl; exact ht hu) g hg hgu)
 refine ⟨hd.trans h.defers, fun d hd => by rw [hsize]; exact h.size d hd, fun q hq => ⟨(h.hold q hq).1, (hH _ (h.hold q hq).1).trans (h.hold q hq).2⟩, h.keep.trans hk (fun g hg hlt => ?_), fun t => ?_, fun t => ?_, fun t u htu g hg hgu => ?_, fun t g hg => ?_, fun t i hi => ?_, fun t g hg => ?_, fun q hq => ⟨hX _ (h.names q hq).1, (hρ _ (h.names q hq).1).trans (h.names q hq).2⟩⟩
 ·obtain ⟨t, _, ht⟩ := hM g hg
  rcases h.mine t g ht with hm | hm
  ·exact hm
  ·omega
 ·by_cases ht : T t
  ·exact (hnew t ht).1
  ·obtain ⟨e1, e2, e3⟩ := hsame t ht
   rw [e1, e2, e3]
   exact SR.same (fun _ h => h) hF _ _ _ (h.slots t) (hL t ht) (fun i hi => hρ i (h.ids t i hi))
 ·by_cases ht : T t
  ·exact (hnew t ht).2.1
  ·rw [(hsame t ht).2.2]; exact h.nodup t
 ·by_cases ht : T t <;> by_cases hu : T u
  ·exact hdisj t u ht hu htu g hg hgu
  ·rw [(hsame u hu).2.2] at hgu
   rcases ((hnew t ht).2.2 g hg).2 with ⟨v, hv, hgv⟩ | hge
   ·exact h.disj v u (by rintro rfl; exact hu hv) g hgv hgu
   ·have := (h.bound u g hgu).1; omega
  ·rw [(hsame t ht).2.2] at hg
   rcases ((hnew u hu).2.2 g hgu).2 with ⟨v, hv, hgv⟩ | hge
   ·exact h.disj v t (by rintro rfl; exact ht hv) g hgv hg
   ·have := (h.bound t g hg).1; omega
  ·rw [(hsame t ht).2.2] at hg
   rw [(hsame u hu).2.2] at hgu
   exact h.disj t u htu g hg hgu
 ·by_cases ht : T t
  ·refine ⟨((hnew t ht).2.2 g hg).1, fun hf => ?_⟩
   rcases ((hnew t ht).2.2 g hg).2 with ⟨v, hv, hgv⟩ | hge
   ·exact (h.bound v g hgv).2 hf
   ·have := h.F_lt hf; omega
  ·rw [(hsame t ht).2.2] at hg
   exact ⟨Nat.lt_of_lt_of_le (h.bound t g hg).1 hk.size, (h.bound t g hg).2⟩
 ·by_cases ht : T t
  ·exact hids t ht i hi
  ·rw [(hsame t ht).1] at hi
   exact hX i (h.ids t i hi)
 ·by_cases ht : T t
  ·rcases ((hnew t ht).2.2 g hg).2 with ⟨v, hv, hgv⟩ | hge
   ·exact h.mine v g hgv
   ·exact .inr (Nat.le_trans h.keep.size hge)
  ·rw [(hsame t ht).2.2] at hg
   exact h.mine t g hg
end
def put (st : Nat → AV) (d : Nat) (v : AV) : Nat → AV := fun t => if t = d then v else st t
def puts (st : Nat → AV) : List (Nat × AV) → Nat → AV
 | [] => st
 | (d, v) :: l => puts (put st d v) l
theorem put_same (st : Nat → AV) (d : Nat) (v : AV) : put st d v d = v := by simp [put]
theorem put_other (st : Nat → AV) (d t : Nat) (v : AV) (h : t ≠ d) : put st d v t = st t := by simp [put, h]
theorem tmp_put_same (a : Act) (d : Nat) (v : Value) (h : d < a.tmps.size) : tmp (a.put (some d) v) d = v := by
 simp [tmp, Act.put, Array.getD_eq_getD_getElem?, h]
theorem tmp_put_other (a : Act) (d t : Nat) (v : Value) (h : t ≠ d) : tmp (a.put (some d) v) t = tmp a t := by
 simp [tmp, Act.put, Array.getD_eq_getD_getElem?, Ne.symm h]
theorem put_size (a : Act) (d : Option Nat) (v : Value) : (a.put d v).tmps.size = a.tmps.size := by cases d <;> simp [Act.put]
theorem put_defers (a : Act) (d : Option Nat) (v : Value) : (a.put d v).defers = a.defers := by cases d <;> rfl
theorem hold_put {N : Nat → Bool} {a : Act} {d : Nat} (v : Value) (hd : N d = true) : ∀ t, N t = false → tmp (a.put (some d) v) t = tmp a t :=
 fun t ht => tmp_put_other a d t v (by rintro rfl; rw [hd] at ht; cases ht)
section
variable {f : Fr} {X : Nat → Prop} {st : Nat → AV} {a : Act} {w : World} {ρ : Nat → Rho} {L : Nat → List Nat}
theorem RepO.put_light (h : RepO f X st a w ρ L) (d : Nat) (hd : f.N d = true) (av : AV) (v : Value) (w' : World) (hk : Keep w [] w')
  (hv : SR f.F w ρ av v []) (hids : ∀ i ∈ av.ids, X i) :
  RepO f X (put st d av) (a.put (some d) v) w' ρ (fun t => if t = d then [] else L t) := by
 refine h.step (fun t => t = d) [] X _ _ w' ρ _ (put_defers _ _ _) (put_size _ _ _) (hold_put _ hd) hk (fun g hg => by simp at hg) (fun _ _ => rfl) (fun t ht => ⟨put_other _ _ _ _ ht, tmp_put_other _ _ _ _ ht, by simp [ht]⟩) (fun t ht => ?_) (fun t u ht hu hne => absurd (ht.trans hu.symm) hne) (fun _ h => h) (fun t ht i hi => ?_)
 ·subst ht
  rw [put_same, tmp_put_same _ _ _ (h.size _ hd), if_pos rfl]
  exact ⟨SR.same (fun _ h => h) (fun g hg => hk.block g (h.F_lt hg) (by simp)) av v [] hv (fun g hg => by simp at hg) (fun _ _ => rfl), List.nodup_nil, fun g hg => by simp at hg⟩
 ·subst ht; rw [put_same] at hi; exact hids i hi
theorem RepO.put_new (h : RepO f X st a w ρ L) (d : Nat) (hd : f.N d = true) (id : Nat) (hid : ¬ X id) (D1 : D) (v : Value) (w' : World) (hk : Keep w [] w') (r : Rho) (L1 : List Nat)
  (hv : RD f.F w' D1 r v L1) (hn : L1.Nodup) (hL : ∀ g ∈ L1, g < w'.heap.size ∧ w.heap.size ≤ g) :
  RepO f (fun i => X i ∨ i = id) (put st d (.own id D1)) (a.put (some d) v) w' (fun i => if i = id then r else ρ i) (fun t => if t = d then L1 else L t) := by
 refine h.step (fun t => t = d) [] _ _ _ w' _ _ (put_defers _ _ _) (put_size _ _ _) (hold_put _ hd) hk (fun g hg => by simp at hg) (fun i hi => by rw [if_neg (by rintro rfl; exact hid hi)]) (fun t ht => ⟨put_other _ _ _ _ ht, tmp_put_other _ _ _ _ ht, by simp [ht]⟩) (fun t ht => ?_) (fun t u ht hu hne => absurd (ht.trans hu.symm) hne) (fun _ h => .inl h) (fun t ht i hi => ?_)
 ·subst ht
  rw [put_same, tmp_put_same _ _ _ (h.size _ hd), if_pos rfl]
  refine ⟨?_, hn, fun g hg => ⟨(hL g hg).1, .inr (hL g hg).2⟩⟩
  simp only [SR, if_true]
  exact hv
 ·subst ht; rw [put_same] at hi; simp only [AV.ids, List.mem_singleton] at hi; exact .inr hi
theorem RepO.done_light {K : Act → World → Prop} {nid : Nat} (h : RepO f X st a w ρ L) {d : Nat} {av : AV} (hK : ∀ a' w', Rep f (fun i => X i ∨ i = nid) (puts st [(d, av)]) a' w' → K a' w') (hd : f.N d = true) (v : Value) (w' : World) (hk : Keep w [] w')
  (hv : SR f.F w ρ av v []) (hids : ∀ i ∈ av.ids, X i) : K (a.put (some d) v) w' := by
 have k := h.put_light d hd av v w' hk hv hids
 exact hK _ _ ⟨ρ, _, ⟨k.defers, k.size, k.hold, k.keep, k.slots, k.nodup, k.disj, k.bound, fun t i hi => .inl (k.ids t i hi), k.mine, fun q hq => ⟨.inl (k.names q hq).1, (k.names q hq).2⟩⟩⟩
theorem RepO.done_lit {K : Act → World → Prop} {nid : Nat} (h : RepO f X st a w ρ L) {d : Nat} {v : Value} (hK : ∀ a' w', Rep f (fun i => X i ∨ i = nid) (puts st [(d, .c (.lit v))]) a' w' → K a' w') (hd : f.N d = true) (hv : v.oneCell' = true) : K (a.put (some d) v) w :=
 h.done_light hK hd v w (Keep.refl w) (by simp only [SR, RD]; exact ⟨trivial, fun _ => .bool true, trivial, hv, trivial⟩) (by simp [AV.ids])
theorem RepO.done_new {K : Act → World → Prop} (h : RepO f X st a w ρ L) {d : Nat} {id : Nat} {D1 : D} (hK : ∀ a' w', Rep f (fun i => X i ∨ i = id) (puts st [(d, .own id D1)]) a' w' → K a' w') (hd : f.N d = true) (hid : ¬ X id) (v : Value) (w' : World) (hk : Keep w [] w') (r : Rho) (L1 : List Nat)
  (hv : RD f.F w' D1 r v L1) (hn : L1.Nodup) (hL : ∀ g ∈ L1, g < w'.heap.size ∧ w.heap.size ≤ g) : K (a.put (some d) v) w' :=
 hK _ _ ⟨_, _, h.put_new d hd id hid D1 v w' hk r L1 hv hn hL⟩
theorem RepO.weaken (h : RepO f X st a w ρ L) {X' : Nat → Prop} (hX : ∀ i, X i → X' i) : RepO f X' st a w ρ L :=
 ⟨h.defers, h.size, h.hold, h.keep, h.slots, h.nodup, h.disj, h.bound, fun t i hi => hX i (h.ids t i hi), h.mine, fun q hq => ⟨hX _ (h.names q hq).1, (h.names q hq).2⟩⟩
end
structure After (f f' : Fr) : Prop where
 N : f'.N = f.N
 H : f'.H = f.H
 R : f'.R = f.R
 F : ∀ g, f.F g → f'.F g
 keep : Keep f.w0 f.M f'.w0
 M : ∀ g ∈ f'.M, g ∈ f.M ∨ f.w0.heap.size ≤ g
 new : ∀ g, f'.F g → f.F g ∨ g ∈ f.M ∨ f.w0.heap.size ≤ g
 still : f.N.S ≠ [] → f' = f
theorem After.refl (f : Fr) : After f f :=
 ⟨rfl, rfl, rfl, fun _ h => h, ⟨rfl, rfl, rfl, Nat.le_refl _, fun _ _ _ => rfl, fun _ => Nat.le_refl _⟩, fun _ h => .inl h, fun _ h => .inl h, fun _ => rfl⟩
theorem After.trans {f f' f'' : Fr} (h : After f f') (k : After f' f'') : After f f'' :=
 ⟨k.N.trans h.N, k.H.trans h.H, k.R.trans h.R, fun g hg => k.F g (h.F g hg), h.keep.trans k.keep (fun g hg hlt => by
  rcases h.M g hg with h1 | h1
  ·exact h1
  ·omega), fun g hg => by
  rcases k.M g hg with h1 | h1
  ·exact h.M g h1
  ·exact .inr (Nat.le_trans h.keep.size h1), fun g hg => by
  rcases k.new g hg with h1 | h1 | h1
  ·exact h.new g h1
  ·rcases h.M g h1 with h2 | h2
   ·exact .inr (.inl h2)
   ·exact .inr (.inr h2)
  ·exact .inr (.inr (Nat.le_trans h.keep.size h1)), fun hs => by
  have e := h.still hs
  subst e
  exact k.still hs⟩
def RepX (f : Fr) (X : Nat → Prop) (st : Nat → AV) (a : Act) (w : World) : Prop := ∃ f', After f f' ∧ Rep f' X st a w
theorem RepX.of {f : Fr} {X : Nat → Prop} {st : Nat → AV} {a : Act} {w : World} (h : Rep f X st a w) : RepX f X st a w := ⟨f, .refl f, h⟩
def mark0 : List (Value × List Int) := [(.slice none 0 0, [])]
theorem RepX.up {f f' : Fr} {X : Nat → Prop} {st : Nat → AV} {a : Act} {w : World} (h : RepX f' X st a w) (k : After f f') : RepX f X st a w :=
 let ⟨f'', k', h⟩ := h
 ⟨f'', k.trans k', h⟩
end Go.Pv
namespace Go.Pv
open Go.RowKit
def Ok (P : Program) (n : NN) (o : Oper) (nid : Nat) (X : Nat → Prop) (st st' : Nat → AV) : Prop :=
 ∀ (f : Fr) (a : Act) (w : World), f.N = n → Rep f X st a w → ∀ (K : Act → World → Prop) (Q : Exit → Act → World → Prop),
  (∀ a' w', Rep f (fun i => X i ∨ i = nid) st' a' w' → K a' w') → o.wp P a w K Q
def Step (P : Program) (n : NN) (o : Oper) (nid : Nat) (st : Nat → AV) (rd : List Nat) (up : List (Nat × AV)) : Prop :=
 ∀ (X : Nat → Prop) (st' : Nat → AV), (∀ s ∈ rd, st' s = st s) → ¬ X nid → Ok P n o nid X st' (puts st' up)
def OkX (P : Program) (n : NN) (o : Oper) (nid : Nat) (X : Nat → Prop) (st st' : Nat → AV) : Prop :=
 ∀ (f : Fr) (a : Act) (w : World), f.N = n → RepX f X st a w → ∀ (K : Act → World → Prop) (Q : Exit → Act → World → Prop),
  (∀ a' w', RepX f (fun i => X i ∨ i = nid) st' a' w' → K a' w') → o.wp P a w K Q
theorem Ok.x {P : Program} {n : NN} {o : Oper} {nid : Nat} {X : Nat → Prop} {st st' : Nat → AV} (h : Ok P n o nid X st st') : OkX P n o nid X st st' :=
 fun _ a w hn ⟨f', k, hr⟩ K Q hK => h f' a w (k.N.trans hn) hr K Q fun a' w' r => hK a' w' ⟨f', k, r⟩
def StepX (P : Program) (n : NN) (o : Oper) (nid : Nat) (st : Nat → AV) (rd : List Nat) (up : List (Nat × AV)) : Prop :=
 ∀ (X : Nat → Prop) (st' : Nat → AV), (∀ s ∈ rd, st' s = st s) → ¬ X nid → OkX P n o nid X st' (puts st' up)
theorem Step.x {P : Program} {n : NN} {o : Oper} {nid : Nat} {st : Nat → AV} {rd : List Nat} {up : List (Nat × AV)} (h : Step P n o nid st rd up) : StepX P n o nid st rd up :=
 fun X st' hs hX => (h X st' hs hX).x
section
variable {P : Program} {n : NN} {nid : Nat} {st : Nat → AV}
theorem wV_ {o : Oper} {a : Act} {w w' : World} {K : Act → World → Prop} {Q : Exit → Act → World → Prop} {u : Value}
  (hr : (execOp a.eval o).run P w = .ok (.value u) w') (hK : K (a.put o.dst u) w') : o.wp P a w K Q := by
 unfold Oper.wp
 rw [hr]
 exact hK
theorem wp_of_skip {o : Oper} {a : Act} {w w' : World} {K : Act → World → Prop} {Q : Exit → Act → World → Prop}
  (hr : (execOp a.eval o).run P w = .ok .skip w') (hK : K (a.put o.dst undef) w') : o.wp P a w K Q := by
 unfold Oper.wp
 rw [hr]
 exact hK
def Lit (st : Nat → AV) : Operand → Value → Prop
 | .tmp t, v => st t = .c (.lit v)
 | .const u, v => u = v
 | .func f, v => Value.func (.func f) #[] #[] = v
 | .global _, _ => False
def rdOf : Operand → List Nat
 | .tmp t => [t]
 | _ => []
theorem Lit.agree {st st' : Nat → AV} {x : Operand} {v : Value} (h : Lit st x v) (hs : ∀ s ∈ rdOf x, st' s = st s) : Lit st' x v := by
 cases x with
 | tmp t => simp only [Lit] at *; rw [hs t (by simp [rdOf])]; exact h
 | _ => exact h
theorem Lit.eval {f : Fr} {X : Nat → Prop} {st : Nat → AV} {a : Act} {w : World} {ρ : Nat → Rho} {L : Nat → List Nat} (h : RepO f X st a w ρ L) {x : Operand} {v : Value} (hx : Lit st x v) : a.eval x = v := by
 cases x with
 | tmp t =>
  have := h.slots t
  simp only [Lit] at hx
  rw [hx] at this
  simp only [SR, RD] at this
  exact this.2.choose_spec.1
 | const u => exact hx
 | func f => exact hx
 | global g => exact hx.elim
theorem step_pure {o : Oper} {d : Nat} {u : Value} (xs : List (Operand × Value)) (hdst : o.dst = some d) (hd : n d = true) (hu : u.oneCell' = true)
  (hl : ∀ p ∈ xs, Lit st p.1 p.2)
  (hrun : ∀ (ev : Operand → Value) (w : World), (∀ p ∈ xs, ev p.1 = p.2) → (execOp ev o).run P w = .ok (.value u) w) :
  Step P n o nid st (xs.flatMap fun p => rdOf p.1) [(d, .c (.lit u))] := by
 intro X st' hs hX f a w hn hrep K Q hK
 obtain ⟨ρ, L, h⟩ := hrep
 subst hn
 refine wV_ (hrun a.eval w fun p hp => Lit.eval h ((hl p hp).agree fun s hs' => hs s (List.mem_flatMap.2 ⟨p, hp, hs'⟩))) (hK _ _ ⟨ρ, fun t => if t = d then [] else L t, ?_⟩)
 rw [hdst]
 exact (h.put_light d hd (.c (.lit u)) u w (Keep.refl w) (by simp only [SR, RD]; exact ⟨trivial, fun _ => .bool true, trivial, hu, trivial⟩) (by simp [AV.ids])).weaken (fun i hi => .inl hi)
theorem step_move_c {d t : Nat} {dd : D} {ty pos aft g} (h : st t = .c dd) (hd : n d = true) :
  Step P n ⟨some d, .move (.tmp t), ty, pos, aft, g⟩ nid st [t] [(d, .c dd)] := by
 intro X st' hs hX f a w hn hrep K Q hK
 obtain ⟨ρ, L, hr⟩ := hrep
 subst hn
 have ht : st' t = .c dd := (hs t (by simp)).trans h
 have hv := hr.slots t
 rw [ht] at hv
 refine wV_ (u := tmp a t) (w' := w) rfl (hK _ _ ⟨ρ, _, (hr.put_light d hd (.c dd) (tmp a t) w (Keep.refl w) ?_ (by simp [AV.ids])).weaken (fun i hi => .inl hi)⟩)
 simp only [SR] at hv ⊢
 exact ⟨trivial, hv.2⟩
theorem step_const {d : Nat} {u : Value} {ty pos aft g} (hu : u.oneCell' = true) (hd : n d = true) :
  Step P n ⟨some d, .assign (.const u), ty, pos, aft, g⟩ nid st [] [(d, .c (.lit u))] :=
 step_pure [(.const u, u)] rfl hd hu (by simp [Lit]) (fun ev w h => by simp only [execOp, h (.const u, u) (by simp)]; rfl)
theorem step_move_const {d : Nat} {u : Value} {ty pos aft g} (hu : u.oneCell' = true) (hd : n d = true) :
  Step P n ⟨some d, .move (.const u), ty, pos, aft, g⟩ nid st [] [(d, .c (.lit u))] :=
 step_pure [(.const u, u)] rfl hd hu (by simp [Lit]) (fun ev w h => by simp only [execOp, h (.const u, u) (by simp)]; rfl)
theorem step_assign_c {d t : Nat} {dd : D} {ty pos aft g} (h : st t = .c dd) (hd : n d = true) :
  Step P n ⟨some d, .assign (.tmp t), ty, pos, aft, g⟩ nid st [t] [(d, .c dd)] := by
 intro X st' hs hX f a w hn hrep K Q hK
 exact step_move_c (P := P) (ty := ty) (pos := pos) (aft := aft) (g := g) h hd X st' hs hX f a w hn hrep K Q hK
theorem step_move_own {d t id : Nat} {sz : Nat} {cs : List D} {ty pos aft g} (h : st t = .own id (.sl true sz cs)) (hd : n d = true) :
  Step P n ⟨some d, .move (.tmp t), ty, pos, aft, g⟩ nid st [t] [(d, .als t id [])] := by
 intro X st' hs hX f a w hn hrep K Q hK
 obtain ⟨ρ, L, hr⟩ := hrep
 subst hn
 have ht : st' t = _ := (hs t (by simp)).trans h
 have hv := hr.slots t
 have hi := hr.ids t
 rw [ht] at hv hi
 refine wV_ (u := tmp a t) (w' := w) rfl (hK _ _ ⟨ρ, _, (hr.put_light d hd (.als t id []) (tmp a t) w (Keep.refl w) ?_ (by simpa [AV.ids] using hi)).weaken (fun i hi => .inl hi)⟩)
 simp only [SR, RD] at hv ⊢
 exact ⟨trivial, hv.1⟩
def AV.light : AV → Bool
 | .c _ | .als .. | .sub .. | .ptr .. | .sptr .. => true
 | _ => false
theorem SR.light {F : Nat → Prop} {w : World} {ρ : Nat → Rho} {a : AV} {v : Value} {L : List Nat} (h : SR F w ρ a v L) (hl : a.light = true) : SR F w ρ a v [] := by
 cases a <;> simp [AV.light] at hl <;> simp only [SR] at h ⊢ <;> exact ⟨trivial, h.2⟩
theorem step_copy {o : Oper} {d t : Nat} {av : AV} (hop : o.op = .move (.tmp t) ∨ o.op = .assign (.tmp t)) (hdst : o.dst = some d) (h : st t = av) (hl : av.light = true) (hd : n d = true) :
  Step P n o nid st [t] [(d, av)] := by
 intro X st' hs hX f a w hn hrep K Q hK
 obtain ⟨ρ, L, hr⟩ := hrep
 subst hn
 have ht : st' t = av := (hs t (by simp)).trans h
 have hv := hr.slots t
 have hi := hr.ids t
 rw [ht] at hv hi
 refine wV_ (u := tmp a t) (w' := w) ?_ (hK _ _ ⟨ρ, fun t => if t = d then [] else L t, ?_⟩)
 ·rcases hop with e | e <;> simp only [execOp, e] <;> rfl
 ·rw [hdst]
  exact (hr.put_light d hd av (tmp a t) w (Keep.refl w) (hv.light hl) hi).weaken (fun i hi => .inl hi)
theorem step_move_light {d t : Nat} {av : AV} {ty pos aft g} (h : st t = av) (hl : av.light = true) (hd : n d = true) :
  Step P n ⟨some d, .move (.tmp t), ty, pos, aft, g⟩ nid st [t] [(d, av)] := step_copy (.inl rfl) rfl h hl hd
theorem step_assign_light {d t : Nat} {av : AV} {ty pos aft g} (h : st t = av) (hl : av.light = true) (hd : n d = true) :
  Step P n ⟨some d, .assign (.tmp t), ty, pos, aft, g⟩ nid st [t] [(d, av)] := step_copy (.inr rfl) rfl h hl hd
theorem step_assign_own {d t id : Nat} {dd : D} {ty pos aft g} (h : st t = .own id dd) (hd : n d = true) (hdt : d ≠ t) :
  Step P n ⟨some d, .assign (.tmp t), ty, pos, aft, g⟩ nid st [t] [(t, .dead), (d, .own nid dd)] := by
 intro X st' hs hX f a w hn hrep K Q hK
 obtain ⟨ρ, L, hr⟩ := hrep
 subst hn
 have ht : st' t = _ := (hs t (by simp)).trans h
 have hv := hr.slots t
 rw [ht] at hv
 simp only [SR] at hv
 refine wV_ (u := tmp a t) (w' := w) rfl (hK _ _ ⟨fun i => if i = nid then ρ id else ρ i, fun s => if s = d then L t else if s = t then [] else L s, ?_⟩)
 refine hr.step (fun s => s = d ∨ s = t) [] _ _ _ w _ _ (put_defers _ _ _) (put_size _ _ _) (hold_put _ hd) (Keep.refl w) (by simp) (fun i hi => by rw [if_neg (by rintro rfl; exact hX hi)])
  (fun s hs' => ?_) (fun s hs' => ?_) (fun s u hs' hu hne g hg hgu => ?_) (fun _ h => .inl h) (fun s hs' i hi => ?_)
 ·have h1 : s ≠ d := fun e => hs' (.inl e)
  have h2 : s ≠ t := fun e => hs' (.inr e)
  exact ⟨by simp [puts, put, h1, h2], tmp_put_other _ _ _ _ h1, by simp [h1, h2]⟩
 ·rcases hs' with rfl | rfl
  ·simp only [puts, put_same, tmp_put_same _ _ _ (hr.size _ hd), if_true, SR]
   exact ⟨hv, hr.nodup t, fun g hg => ⟨(hr.bound t g hg).1, .inl ⟨t, .inr rfl, hg⟩⟩⟩
  ·simp only [puts, put_other _ _ _ _ hdt.symm, put_same, if_neg hdt.symm, if_true, SR]
   exact ⟨trivial, List.nodup_nil, fun g hg => by simp at hg⟩
 ·rcases hs' with rfl | rfl <;> rcases hu with rfl | rfl
  ·exact hne rfl
  ·simp [hdt.symm] at hgu
  ·simp [hdt.symm] at hg
  ·exact hne rfl
 ·rcases hs' with rfl | rfl
  ·simp only [puts, put_same, AV.ids, List.mem_singleton] at hi; exact .inr hi
  ·simp [puts, put_other _ _ _ _ hdt.symm, put_same, AV.ids] at hi
end
end Go.Pv
