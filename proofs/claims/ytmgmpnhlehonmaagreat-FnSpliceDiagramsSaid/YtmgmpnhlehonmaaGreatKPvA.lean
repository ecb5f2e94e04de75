/- Steps that store, that lay new memory, and that extend a slice. No condition. -/
import Derived.WalkKit
set_option linter.unusedVariables false
set_option linter.unusedSimpArgs false
namespace Go.Pv
open Go.RowKit
inductive D where
 | lit (v : Value)
 | sl (own : Bool) (sz : Nat) (cs : List D)
 | pt (own : Bool) (cs : List D)
 | hole
 | fn (g : FuncId) (cs : List D)
mutual
def D.free : D → Bool
 | .lit _ => true
 | .sl own _ cs => !own && D.frees cs
 | .pt own cs => !own && D.frees cs
 | .fn _ cs => D.frees cs
 | .hole => false
def D.frees : List D → Bool
 | [] => true
 | d :: ds => d.free && D.frees ds
end
mutual
def D.erase : D → D
 | .lit v => .lit v
 | .sl _ sz cs => .sl false sz (D.erases cs)
 | .pt _ cs => .pt false (D.erases cs)
 | .fn g cs => .fn g (D.erases cs)
 | .hole => .hole
def D.erases : List D → List D
 | [] => []
 | d :: ds => d.erase :: D.erases ds
end
theorem D.erases_eq (l : List D) : D.erases l = l.map D.erase := by
 induction l with
 | nil => rfl
 | cons d ds ih => simp [D.erases, ih]
def Same (w w' : World) (g : Nat) : Prop := w'.heap[g]? = w.heap[g]?
abbrev Rho := List Nat → Value
def Rho.at (ρ : Rho) (k : Nat) : Rho := fun π => ρ (k :: π)
def Rho.upd (ρ : Rho) (k : Nat) (ρ' : Rho) : Rho := fun π => match π with
 | [] => ρ []
 | j :: π' => if j = k then ρ' π' else ρ (j :: π')
def Row (w : World) (v : Value) (sz : Nat) (us : List Value) (L : List Nat) : Prop :=
 (v = .slice none 0 0 ∧ us = [] ∧ L = []) ∨
 ∃ g o n cap cur e, v = .slice (some ⟨g, o, none⟩) n cap ∧ w.heap[g]? = some (.cells cur e (0, 0)) ∧ n * sz = us.length ∧ n ≤ cap ∧ cap ≤ maxLen ∧
  o + cap * sz ≤ cur.size ∧ (cur.toList.drop o).take (n * sz) = us ∧ L = [g]
theorem Row.mk0 {w : World} {v : Value} {sz : Nat} {us : List Value} {L : List Nat} (h : ∃ g n cap cur e, v = .slice (some ⟨g, 0, none⟩) n cap ∧ w.heap[g]? = some (.cells cur e (0, 0)) ∧ n * sz = us.length ∧ n ≤ cap ∧ cap ≤ maxLen ∧
  cur.size = cap * sz ∧ cur.toList.take (n * sz) = us ∧ L = [g]) : Row w v sz us L := by
 obtain ⟨g, n, cap, cur, e, h1, h2, h3, h4, h5, h6, h7, h8⟩ := h
 exact .inr ⟨g, 0, n, cap, cur, e, h1, h2, h3, h4, h5, by rw [Nat.zero_add]; exact Nat.le_of_eq h6.symm, h7, h8⟩
theorem addr_off (g o j : Nat) : (⟨g, o, none⟩ : Addr).add j = ⟨g, o + j, none⟩ := by
 unfold Addr.add
 split <;> simp_all
theorem cell_off {w : World} {g o m : Nat} {cur : Array Value} {e : TypeId} {us : List Value} (h2 : w.heap[g]? = some (.cells cur e (0, 0))) (h7 : (cur.toList.drop o).take m = us) {j : Nat} {u : Value} (hu : us[j]? = some u) : w.cell? ⟨g, o + j, none⟩ = some u := by
 rw [cell_of_row w g (o + j) cur e (0, 0) h2]
 rw [← h7, List.getElem?_take] at hu
 split at hu
 ·rw [List.getElem?_drop] at hu
  simpa using hu
 ·cases hu
def ShRow (F : Nat → Prop) (w : World) (v : Value) (sz : Nat) (us : List Value) : Prop :=
 ∃ a n cap, v = .slice a n cap ∧ n * sz = us.length ∧ n ≤ cap ∧ cap ≤ maxLen ∧
  (us ≠ [] → ∃ b, a = some b ∧ F b.block ∧ ∀ (j : Nat) (u : Value), us[j]? = some u → w.cell? (b.add j) = some u)
mutual
def RD (F : Nat → Prop) (w : World) : D → Rho → Value → List Nat → Prop
 | .lit u, _, v, L => v = u ∧ u.oneCell' = true ∧ L = []
 | .hole, ρ, v, L => v = ρ [] ∧ v.oneCell' = true ∧ L = []
 | .sl true sz cs, ρ, v, L => v = ρ [] ∧ ∃ us L0 L1, L = L0 ++ L1 ∧ Row w v sz us L0 ∧ RDs F w cs 0 ρ us L1
 | .sl false sz cs, ρ, v, L => L = [] ∧ ∃ us, ShRow F w v sz us ∧ RDs F w cs 0 ρ us []
 | .pt true cs, ρ, v, L => v = ρ [] ∧ ∃ g us L1 e, v = .pointer (some ⟨g, 0, none⟩) ∧ L = g :: L1 ∧ w.heap[g]? = some (.cells us.toArray e (0, 0)) ∧ RDs F w cs 0 ρ us L1
 | .pt false cs, ρ, v, L => L = [] ∧ ∃ b us, v = .pointer (some b) ∧ F b.block ∧ (∀ (j : Nat) (u : Value), us[j]? = some u → w.cell? (b.add j) = some u) ∧ RDs F w cs 0 ρ us []
 | .fn g cs, ρ, v, L => L = [] ∧ ∃ us, v = .func (.func g) #[] us.toArray ∧ RDs F w cs 0 ρ us []
def RDs (F : Nat → Prop) (w : World) : List D → Nat → Rho → List Value → List Nat → Prop
 | [], _, _, us, L => us = [] ∧ L = []
 | d :: ds, k, ρ, us, L => ∃ u us' L1 L2, us = u :: us' ∧ L = L1 ++ L2 ∧ RD F w d (ρ.at k) u L1 ∧ RDs F w ds (k + 1) ρ us' L2
end
theorem RDs.length {F : Nat → Prop} {w : World} : ∀ {cs : List D} {k : Nat} {ρ : Rho} {us : List Value} {L : List Nat}, RDs F w cs k ρ us L → us.length = cs.length
 | [], _, _, _, _, h => by simp only [RDs] at h; simp [h.1]
 | d :: ds, k, ρ, us, L, h => by
  simp only [RDs] at h
  obtain ⟨u, us', L1, L2, rfl, _, _, h2⟩ := h
  simp [RDs.length h2]
theorem Row.same {w w' : World} {v : Value} {sz : Nat} {us : List Value} {L : List Nat} (h : Row w v sz us L) (hs : ∀ g ∈ L, Same w w' g) : Row w' v sz us L := by
 rcases h with h | ⟨g, o, n, cap, cur, e, h1, h2, h3, h4, h5, h6, h7, rfl⟩
 ·exact .inl h
 ·exact .inr ⟨g, o, n, cap, cur, e, h1, (hs g (by simp)).trans h2, h3, h4, h5, h6, h7, rfl⟩
theorem cell_same {w w' : World} {a : Addr} (h : Same w w' a.block) : w'.cell? a = w.cell? a := by
 unfold Same at h; simp [World.cell?, h]
theorem add_block (b : Addr) (j : Nat) : (b.add j).block = b.block := by unfold Addr.add; split <;> rfl
theorem ShRow.same {F F' : Nat → Prop} {w w' : World} {v : Value} {sz : Nat} {us : List Value} (h : ShRow F w v sz us) (hF : ∀ g, F g → F' g) (hs : ∀ g, F g → Same w w' g) : ShRow F' w' v sz us := by
 obtain ⟨a, n, cap, h1, h2, h3, h4, h5⟩ := h
 refine ⟨a, n, cap, h1, h2, h3, h4, fun hne => ?_⟩
 obtain ⟨b, rfl, hb, hc⟩ := h5 hne
 exact ⟨b, rfl, hF _ hb, fun j u hu => (cell_same (by rw [add_block]; exact hs _ hb)).trans (hc j u hu)⟩
mutual
theorem RD.same {F F' : Nat → Prop} {w w' : World} (hF : ∀ g, F g → F' g) (hs : ∀ g, F g → Same w w' g) :
  ∀ (d : D) (ρ : Rho) (v : Value) (L : List Nat), RD F w d ρ v L → (∀ g ∈ L, Same w w' g) → RD F' w' d ρ v L
 | .lit u, _, _, _, h, _ => by simpa only [RD] using h
 | .hole, _, _, _, h, _ => by simpa only [RD] using h
 | .sl true sz cs, ρ, v, L, h, hL => by
  simp only [RD] at h ⊢
  obtain ⟨h0, us, L0, L1, rfl, h1, h2⟩ := h
  exact ⟨h0, us, L0, L1, rfl, h1.same (fun g hg => hL g (by simp [hg])), RDs.same hF hs cs 0 ρ us L1 h2 (fun g hg => hL g (by simp [hg]))⟩
 | .sl false sz cs, ρ, v, L, h, _ => by
  simp only [RD] at h ⊢
  obtain ⟨h0, us, h1, h2⟩ := h
  exact ⟨h0, us, h1.same hF hs, RDs.same hF hs cs 0 ρ us [] h2 (fun g hg => by simp at hg)⟩
 | .pt true cs, ρ, v, L, h, hL => by
  simp only [RD] at h ⊢
  obtain ⟨h0, g, us, L1, e, h1, rfl, h2, h3⟩ := h
  exact ⟨h0, g, us, L1, e, h1, rfl, (hL g (by simp)).trans h2, RDs.same hF hs cs 0 ρ us L1 h3 (fun g hg => hL g (by simp [hg]))⟩
 | .pt false cs, ρ, v, L, h, _ => by
  simp only [RD] at h ⊢
  obtain ⟨h0, b, us, h1, h2, h3, h4⟩ := h
  exact ⟨h0, b, us, h1, hF _ h2, fun j u hu => (cell_same (by rw [add_block]; exact hs _ h2)).trans (h3 j u hu), RDs.same hF hs cs 0 ρ us [] h4 (fun g hg => by simp at hg)⟩
 | .fn g cs, ρ, v, L, h, _ => by
  simp only [RD] at h ⊢
  obtain ⟨h0, us, h1, h2⟩ := h
  exact ⟨h0, us, h1, RDs.same hF hs cs 0 ρ us [] h2 (fun g hg => by simp at hg)⟩
theorem RDs.same {F F' : Nat → Prop} {w w' : World} (hF : ∀ g, F g → F' g) (hs : ∀ g, F g → Same w w' g) :
  ∀ (ds : List D) (k : Nat) (ρ : Rho) (us : List Value) (L : List Nat), RDs F w ds k ρ us L → (∀ g ∈ L, Same w w' g) → RDs F' w' ds k ρ us L
 | [], _, _, _, _, h, _ => by simpa only [RDs] using h
 | d :: ds, k, ρ, us, L, h, hL => by
  simp only [RDs] at h ⊢
  obtain ⟨u, us', L1, L2, rfl, rfl, h1, h2⟩ := h
  exact ⟨u, us', L1, L2, rfl, rfl, RD.same hF hs d _ u L1 h1 (fun g hg => hL g (by simp [hg])), RDs.same hF hs ds (k + 1) ρ us' L2 h2 (fun g hg => hL g (by simp [hg]))⟩
end
mutual
theorem RD.erase {F F' : Nat → Prop} {w : World} (hF : ∀ g, F g → F' g) :
  ∀ (d : D) (ρ : Rho) (v : Value) (L : List Nat), RD F w d ρ v L → (∀ g ∈ L, F' g) → RD F' w d.erase ρ v []
 | .lit u, _, _, _, h, _ => by simp only [RD, D.erase] at h ⊢; exact ⟨h.1, h.2.1, trivial⟩
 | .hole, _, _, _, h, _ => by simp only [RD, D.erase] at h ⊢; exact ⟨h.1, h.2.1, trivial⟩
 | .sl true sz cs, ρ, v, L, h, hL => by
  simp only [RD, D.erase] at h ⊢
  obtain ⟨h0, us, L0, L1, rfl, h1, h2⟩ := h
  refine ⟨trivial, us, ?_, RDs.erase hF cs 0 ρ us L1 h2 (fun g hg => hL g (by simp [hg]))⟩
  rcases h1 with ⟨rfl, rfl, rfl⟩ | ⟨g, o, n, cap, cur, e, h1, h2, h3, h4, h5, h6, h7, rfl⟩
  ·exact ⟨none, 0, 0, rfl, by simp, Nat.le_refl _, Nat.zero_le _, fun h => absurd rfl h⟩
  ·refine ⟨some ⟨g, o, none⟩, n, cap, h1, h3, h4, h5, fun _ => ⟨_, rfl, hL g (by simp), fun j u hu => ?_⟩⟩
   rw [addr_off]
   exact cell_off h2 h7 hu
 | .sl false sz cs, ρ, v, L, h, _ => by
  simp only [RD, D.erase] at h ⊢
  obtain ⟨h0, us, h1, h2⟩ := h
  exact ⟨trivial, us, h1.same hF (fun _ _ => rfl), RDs.erase hF cs 0 ρ us [] h2 (fun g hg => by simp at hg)⟩
 | .pt true cs, ρ, v, L, h, hL => by
  simp only [RD, D.erase] at h ⊢
  obtain ⟨h0, g, us, L1, e, h1, rfl, h2, h3⟩ := h
  refine ⟨trivial, ⟨g, 0, none⟩, us, h1, hL g (by simp), fun j u hu => ?_, RDs.erase hF cs 0 ρ us L1 h3 (fun g hg => hL g (by simp [hg]))⟩
  have hadd : (⟨g, 0, none⟩ : Addr).add j = ⟨g, j, none⟩ := by unfold Addr.add; split <;> simp_all
  rw [hadd, cell_of_row w g j us.toArray e (0, 0) h2]
  simpa using hu
 | .pt false cs, ρ, v, L, h, _ => by
  simp only [RD, D.erase] at h ⊢
  obtain ⟨h0, b, us, h1, h2, h3, h4⟩ := h
  exact ⟨trivial, b, us, h1, hF _ h2, h3, RDs.erase hF cs 0 ρ us [] h4 (fun g hg => by simp at hg)⟩
 | .fn g cs, ρ, v, L, h, _ => by
  simp only [RD, D.erase] at h ⊢
  obtain ⟨h0, us, h1, h2⟩ := h
  exact ⟨trivial, us, h1, RDs.erase hF cs 0 ρ us [] h2 (fun g hg => by simp at hg)⟩
theorem RDs.erase {F F' : Nat → Prop} {w : World} (hF : ∀ g, F g → F' g) :
  ∀ (ds : List D) (k : Nat) (ρ : Rho) (us : List Value) (L : List Nat), RDs F w ds k ρ us L → (∀ g ∈ L, F' g) → RDs F' w (D.erases ds) k ρ us []
 | [], _, _, _, _, h, _ => by simp only [RDs, D.erases] at h ⊢; exact ⟨h.1, trivial⟩
 | d :: ds, k, ρ, us, L, h, hL => by
  simp only [RDs, D.erases] at h ⊢
  obtain ⟨u, us', L1, L2, rfl, rfl, h1, h2⟩ := h
  exact ⟨u, us', [], [], rfl, rfl, RD.erase hF d _ u L1 h1 (fun g hg => hL g (by simp [hg])), RDs.erase hF ds (k + 1) ρ us' L2 h2 (fun g hg => hL g (by simp [hg]))⟩
end
mutual
def D.solid : D → Bool
 | .lit _ | .hole => true
 | .sl own _ cs | .pt own cs => own && D.solids cs
 | .fn _ cs => D.solids cs
def D.solids : List D → Bool
 | [] => true
 | d :: ds => d.solid && D.solids ds
end
mutual
theorem RD.solid {F F' : Nat → Prop} {w : World} : ∀ (d : D) (ρ : Rho) (v : Value) (L : List Nat), RD F w d ρ v L → d.solid = true → RD F' w d ρ v L
 | .lit u, _, _, _, h, _ => by simpa only [RD] using h
 | .hole, _, _, _, h, _ => by simpa only [RD] using h
 | .sl true sz cs, ρ, v, L, h, hs => by
  simp only [D.solid, Bool.true_and] at hs
  simp only [RD] at h ⊢
  obtain ⟨h0, us, L0, L1, rfl, h1, h2⟩ := h
  exact ⟨h0, us, L0, L1, rfl, h1, RDs.solid cs 0 ρ us L1 h2 hs⟩
 | .sl false sz cs, ρ, v, L, h, hs => by simp [D.solid] at hs
 | .pt true cs, ρ, v, L, h, hs => by
  simp only [D.solid, Bool.true_and] at hs
  simp only [RD] at h ⊢
  obtain ⟨h0, g, us, L1, e, h1, rfl, h2, h3⟩ := h
  exact ⟨h0, g, us, L1, e, h1, rfl, h2, RDs.solid cs 0 ρ us L1 h3 hs⟩
 | .pt false cs, ρ, v, L, h, hs => by simp [D.solid] at hs
 | .fn g cs, ρ, v, L, h, hs => by
  simp only [D.solid] at hs
  simp only [RD] at h ⊢
  obtain ⟨h0, us, h1, h2⟩ := h
  exact ⟨h0, us, h1, RDs.solid cs 0 ρ us [] h2 hs⟩
theorem RDs.solid {F F' : Nat → Prop} {w : World} : ∀ (ds : List D) (k : Nat) (ρ : Rho) (us : List Value) (L : List Nat), RDs F w ds k ρ us L → D.solids ds = true → RDs F' w ds k ρ us L
 | [], _, _, _, _, h, _ => by simpa only [RDs] using h
 | d :: ds, k, ρ, us, L, h, hs => by
  simp only [D.solids, Bool.and_eq_true] at hs
  simp only [RDs] at h ⊢
  obtain ⟨u, us', L1, L2, rfl, rfl, h1, h2⟩ := h
  exact ⟨u, us', L1, L2, rfl, rfl, RD.solid d _ u L1 h1 hs.1, RDs.solid ds (k + 1) ρ us' L2 h2 hs.2⟩
end
theorem Rho.at_upd_same (ρ ρ' : Rho) (k : Nat) : (ρ.upd k ρ').at k = ρ' := by funext π; simp [Rho.at, Rho.upd]
theorem Rho.at_upd_other (ρ ρ' : Rho) (k j : Nat) (h : j ≠ k) : (ρ.upd k ρ').at j = ρ.at j := by funext π; simp [Rho.at, Rho.upd, h]
mutual
theorem RD.rho {F : Nat → Prop} {w : World} : ∀ (d : D) (ρ ρ' : Rho) (v : Value) (L : List Nat), RD F w d ρ v L → (∀ π, ρ' π = ρ π) → RD F w d ρ' v L
 | d, ρ, ρ', v, L, h, e => by have : ρ' = ρ := funext e; rw [this]; exact h
theorem RDs.rho {F : Nat → Prop} {w : World} : ∀ (ds : List D) (k : Nat) (ρ ρ' : Rho) (us : List Value) (L : List Nat), RDs F w ds k ρ us L → (∀ j, k ≤ j → ρ'.at j = ρ.at j) → RDs F w ds k ρ' us L
 | [], _, _, _, _, _, h, _ => by simpa only [RDs] using h
 | d :: ds, k, ρ, ρ', us, L, h, e => by
  simp only [RDs] at h ⊢
  obtain ⟨u, us', L1, L2, rfl, rfl, h1, h2⟩ := h
  exact ⟨u, us', L1, L2, rfl, rfl, by rw [e k (Nat.le_refl _)]; exact h1, RDs.rho ds (k + 1) ρ ρ' us' L2 h2 (fun j hj => e j (by omega))⟩
end
theorem RDs.at {F : Nat → Prop} {w : World} : ∀ (cs : List D) (k : Nat) (ρ : Rho) (us : List Value) (L : List Nat), RDs F w cs k ρ us L → ∀ (j : Nat) (d : D), cs[j]? = some d →
  ∃ u A L1 B, us[j]? = some u ∧ L = A ++ (L1 ++ B) ∧ RD F w d (ρ.at (k + j)) u L1 ∧
   ∀ (w' : World) (d' : D) (ρ' : Rho) (u' : Value) (L1' : List Nat), (∀ g, F g → Same w w' g) → (∀ g, g ∈ A ∨ g ∈ B → Same w w' g) → RD F w' d' ρ' u' L1' →
    RDs F w' (cs.set j d') k (ρ.upd (k + j) ρ') (us.set j u') (A ++ (L1' ++ B))
 | [], _, _, _, _, _, j, d, hd => by simp at hd
 | c :: cs, k, ρ, us, L, h, 0, d, hd => by
  simp only [RDs] at h
  obtain ⟨u, us', L1, L2, rfl, rfl, h1, h2⟩ := h
  simp only [List.getElem?_cons_zero, Option.some.injEq] at hd
  subst hd
  refine ⟨u, [], L1, L2, rfl, rfl, h1, fun w' d' ρ' u' L1' hF hAB hd' => ?_⟩
  simp only [List.set_cons_zero, RDs, List.nil_append]
  refine ⟨u', us', L1', L2, rfl, rfl, by rw [Nat.add_zero, Rho.at_upd_same]; exact hd', ?_⟩
  exact RDs.rho cs (k + 1) ρ _ us' L2 (RDs.same (fun _ h => h) hF cs (k + 1) ρ us' L2 h2 (fun g hg => hAB g (.inr hg))) (fun j hj => Rho.at_upd_other _ _ _ _ (by omega))
 | c :: cs, k, ρ, us, L, h, j + 1, d, hd => by
  simp only [RDs] at h
  obtain ⟨u, us', L1, L2, rfl, rfl, h1, h2⟩ := h
  simp only [List.getElem?_cons_succ] at hd
  obtain ⟨v, A, M, B, hv, rfl, hM, hput⟩ := RDs.at cs (k + 1) ρ us' L2 h2 j d hd
  have ek : k + 1 + j = k + (j + 1) := by omega
  rw [ek] at hM
  refine ⟨v, L1 ++ A, M, B, by simpa using hv, by simp, hM, fun w' d' ρ' u' L1' hF hAB hd' => ?_⟩
  simp only [List.set_cons_succ, RDs]
  refine ⟨u, us'.set j u', L1, A ++ (L1' ++ B), rfl, by simp, ?_, ?_⟩
  ·rw [Rho.at_upd_other _ _ _ _ (by omega)]
   exact RD.same (fun _ h => h) hF c _ u L1 h1 (fun g hg => hAB g (.inl (by simp [hg])))
  ·have := hput w' d' ρ' u' L1' hF (fun g hg => hAB g (by rcases hg with hg | hg <;> simp [hg])) hd'
   rw [ek] at this
   exact this
def D.kids : D → Option (List D)
 | .sl true _ cs => some cs
 | .pt true cs => some cs
 | _ => none
def D.withKids : D → List D → D
 | .sl true sz _, cs => .sl true sz cs
 | .pt true _, cs => .pt true cs
 | d, _ => d
def D.nav : D → List Nat → Option D
 | d, [] => some d
 | d, k :: π => match d.kids with
  | some cs => match cs[k]? with
   | some c => c.nav π
   | none => none
  | none => none
def D.put : D → List Nat → D → D
 | _, [], d' => d'
 | d, k :: π, d' => match d.kids with
  | some cs => match cs[k]? with
   | some c => d.withKids (cs.set k (c.put π d'))
   | none => d
  | none => d
def Rho.sub (ρ : Rho) (π : List Nat) : Rho := fun q => ρ (π ++ q)
def Rho.set : Rho → List Nat → Rho → Rho
 | _, [], ρ' => ρ'
 | ρ, k :: π, ρ' => ρ.upd k ((ρ.at k).set π ρ')
theorem Rho.upd_at (ρ : Rho) (k : Nat) : ρ.upd k (ρ.at k) = ρ := by
 funext π; cases π with
 | nil => rfl
 | cons j π => simp only [Rho.upd, Rho.at]; split <;> simp_all
theorem RD.focus {F : Nat → Prop} {w : World} : ∀ (π : List Nat) (d : D) (ρ : Rho) (v : Value) (L : List Nat), RD F w d ρ v L → ∀ d1, d.nav π = some d1 →
  ∃ v1 A L1 B, L = A ++ (L1 ++ B) ∧ RD F w d1 (ρ.sub π) v1 L1 ∧
   ∀ (w' : World) (d1' : D) (ρ1' : Rho) (L1' : List Nat), (∀ g, F g → Same w w' g) → (∀ g, g ∈ A ∨ g ∈ B → Same w w' g) → RD F w' d1' ρ1' v1 L1' →
    RD F w' (d.put π d1') (ρ.set π ρ1') v (A ++ (L1' ++ B))
 | [], d, ρ, v, L, h, d1, hd => by
  simp only [D.nav, Option.some.injEq] at hd
  subst hd
  exact ⟨v, [], L, [], by simp, h, fun w' d1' ρ1' L1' _ _ hd' => by simpa [D.put, Rho.set] using hd'⟩
 | k :: π, .sl true sz cs, ρ, v, L, h, d1, hd => by
  simp only [D.nav, D.kids] at hd
  cases hc : cs[k]? with
  | none => simp [hc] at hd
  | some c =>
   simp only [hc] at hd
   simp only [RD] at h
   obtain ⟨h0, us, L0, L1, rfl, h1, h2⟩ := h
   obtain ⟨u, A, M, B, hu, rfl, hM, hput⟩ := RDs.at cs 0 ρ us L1 h2 k c hc
   rw [Nat.zero_add] at hM
   obtain ⟨v1, A', M', B', rfl, hM', hput'⟩ := RD.focus π c (ρ.at k) u M hM d1 hd
   refine ⟨v1, L0 ++ (A ++ A'), M', B' ++ B, by simp, hM', fun w' d1' ρ1' L1' hF hAB hd' => ?_⟩
   have e := hput' w' d1' ρ1' L1' hF (fun g hg => hAB g (by rcases hg with hg | hg <;> simp [hg])) hd'
   have f := hput w' _ _ u _ hF (fun g hg => hAB g (by rcases hg with hg | hg <;> simp [hg])) e
   have hus : us.set k u = us := by
    obtain ⟨hk, rfl⟩ := List.getElem?_eq_some_iff.1 hu
    simp
   rw [hus, Nat.zero_add] at f
   simp only [D.put, D.kids, hc, D.withKids, RD, Rho.set]
   exact ⟨h0, us, L0, A ++ ((A' ++ (L1' ++ B')) ++ B), by simp, h1.same (fun g hg => hAB g (by simp [hg])), f⟩
 | k :: π, .pt true cs, ρ, v, L, h, d1, hd => by
  simp only [D.nav, D.kids] at hd
  cases hc : cs[k]? with
  | none => simp [hc] at hd
  | some c =>
   simp only [hc] at hd
   simp only [RD] at h
   obtain ⟨h0, g, us, L1, e, h1, rfl, h2, h3⟩ := h
   obtain ⟨u, A, M, B, hu, rfl, hM, hput⟩ := RDs.at cs 0 ρ us L1 h3 k c hc
   rw [Nat.zero_add] at hM
   obtain ⟨v1, A', M', B', rfl, hM', hput'⟩ := RD.focus π c (ρ.at k) u M hM d1 hd
   refine ⟨v1, g :: (A ++ A'), M', B' ++ B, by simp, hM', fun w' d1' ρ1' L1' hF hAB hd' => ?_⟩
   have e1 := hput' w' d1' ρ1' L1' hF (fun g hg => hAB g (by rcases hg with hg | hg <;> simp [hg])) hd'
   have f := hput w' _ _ u _ hF (fun g hg => hAB g (by rcases hg with hg | hg <;> simp [hg])) e1
   have hus : us.set k u = us := by
    obtain ⟨hk, rfl⟩ := List.getElem?_eq_some_iff.1 hu
    simp
   rw [hus, Nat.zero_add] at f
   simp only [D.put, D.kids, hc, D.withKids, RD, Rho.set]
   exact ⟨h0, g, us, A ++ ((A' ++ (L1' ++ B')) ++ B), e, h1, by simp, (hAB g (by simp)).trans h2, f⟩
 | k :: π, .lit u, _, _, _, _, d1, hd => by simp [D.nav, D.kids] at hd
 | k :: π, .hole, _, _, _, _, d1, hd => by simp [D.nav, D.kids] at hd
 | k :: π, .sl false sz cs, _, _, _, _, d1, hd => by simp [D.nav, D.kids] at hd
 | k :: π, .fn _ cs, _, _, _, _, d1, hd => by simp [D.nav, D.kids] at hd
 | k :: π, .pt false cs, _, _, _, _, d1, hd => by simp [D.nav, D.kids] at hd
inductive AV where
 | c (d : D)
 | own (id : Nat) (d : D)
 | raw (d : D)
 | als (x id : Nat) (path : List Nat)
 | sub (x id : Nat) (path : List Nat) (sz lo n : Nat)
 | ptr (x id : Nat) (path : List Nat) (off : Nat)
 | sptr (cs : List D) (off : Nat)
 | agg (l : List AV)
 | tup (l : List AV)
 | clo (g : FuncId) (l : List AV)
 | tupn (id : Nat) (l : List AV)
 | tupr (x id : Nat) (l : List AV)
 | dead
mutual
def AV.ids : AV → List Nat
 | .own i _ | .als _ i _ | .sub _ i _ _ _ _ | .ptr _ i _ _ => [i]
 | .agg l | .tup l | .clo _ l => AV.idss l
 | .tupn i l | .tupr _ i l => i :: AV.idss l
 | _ => []
def AV.idss : List AV → List Nat
 | [] => []
 | a :: l => a.ids ++ AV.idss l
end
def baseOf : Value → Option Addr
 | .slice a _ _ => a
 | .pointer a => a
 | _ => none
mutual
def SR (F : Nat → Prop) (w : World) (ρ : Nat → Rho) : AV → Value → List Nat → Prop
 | .c d, v, L => L = [] ∧ ∃ r, RD F w d r v []
 | .own id d, v, L => RD F w d (ρ id) v L
 | .raw d, v, L => ∃ r, RD F w d r v L
 | .als _ id path, v, L => L = [] ∧ v = ρ id path
 | .sub _ id path sz lo n, v, L => L = [] ∧ ∃ a n0 c0 a1 c1, ρ id path = .slice a n0 c0 ∧ v = .slice a1 n c1 ∧ lo + n ≤ n0 ∧ n ≤ c1 ∧ c1 ≤ maxLen ∧ (n ≠ 0 → a.isSome = true ∧ a1 = a.map (·.add (lo * sz)))
 | .ptr _ id path off, v, L => L = [] ∧ ∃ b, baseOf (ρ id path) = some b ∧ v = .pointer (some (b.add off))
 | .sptr cs off, v, L => L = [] ∧ ∃ (b : Addr) (us : List Value) (r : Rho), v = .pointer (some (b.add off)) ∧ F b.block ∧ (∀ (j : Nat) (u : Value), us[j]? = some u → w.cell? (b.add j) = some u) ∧ RDs F w cs 0 r us []
 | .agg l, v, L => ∃ vs, v = .agg vs.toArray ∧ SRs F w ρ l vs L
 | .tup l, v, L => ∃ vs, v = .tuple vs.toArray ∧ SRs F w ρ l vs L
 | .clo g l, v, L => ∃ vs, v = .func (.func g) #[] vs.toArray ∧ SRs F w ρ l vs L
 | .tupn id l, v, L => v = ρ id [] ∧ ∃ vs, v = .tuple vs.toArray ∧ SRs F w ρ l vs L
 | .tupr _ id l, v, L => v = ρ id [] ∧ ∃ vs, v = .tuple vs.toArray ∧ SRs F w ρ l vs L
 | .dead, _, L => L = []
def SRs (F : Nat → Prop) (w : World) (ρ : Nat → Rho) : List AV → List Value → List Nat → Prop
 | [], vs, L => vs = [] ∧ L = []
 | a :: l, vs, L => ∃ v vs' L1 L2, vs = v :: vs' ∧ L = L1 ++ L2 ∧ SR F w ρ a v L1 ∧ SRs F w ρ l vs' L2
end
mutual
theorem SR.same {F F' : Nat → Prop} {w w' : World} {ρ ρ' : Nat → Rho} (hF : ∀ g, F g → F' g) (hs : ∀ g, F g → Same w w' g) :
  ∀ (a : AV) (v : Value) (L : List Nat), SR F w ρ a v L → (∀ g ∈ L, Same w w' g) → (∀ i ∈ a.ids, ρ' i = ρ i) → SR F' w' ρ' a v L
 | .c d, v, L, h, _, _ => by
  simp only [SR] at h ⊢
  obtain ⟨h1, r, h3⟩ := h
  exact ⟨h1, r, RD.same hF hs d r v [] h3 (fun g hg => by simp at hg)⟩
 | .own id d, v, L, h, hL, hi => by
  simp only [SR] at h ⊢
  rw [hi id (by simp [AV.ids])]
  exact RD.same hF hs d _ v L h hL
 | .raw d, v, L, h, hL, _ => by
  simp only [SR] at h ⊢
  obtain ⟨r, h⟩ := h
  exact ⟨r, RD.same hF hs d r v L h hL⟩
 | .als x id p, v, L, h, _, hi => by
  simp only [SR] at h ⊢
  rw [hi id (by simp [AV.ids])]; exact h
 | .sub x id p sz lo n, v, L, h, _, hi => by
  simp only [SR] at h ⊢
  rw [hi id (by simp [AV.ids])]; exact h
 | .ptr x id p o, v, L, h, _, hi => by
  simp only [SR] at h ⊢
  rw [hi id (by simp [AV.ids])]; exact h
 | .sptr cs o, v, L, h, _, _ => by
  simp only [SR] at h ⊢
  obtain ⟨h1, b, us, r, h3, h4, h5, h6⟩ := h
  exact ⟨h1, b, us, r, h3, hF _ h4, fun j u hu => (cell_same (by rw [add_block]; exact hs _ h4)).trans (h5 j u hu), RDs.same hF hs cs 0 r us [] h6 (fun g hg => by simp at hg)⟩
 | .agg l, v, L, h, hL, hi => by
  simp only [SR] at h ⊢
  obtain ⟨vs, h1, h2⟩ := h
  exact ⟨vs, h1, SRs.same hF hs l vs L h2 hL (by simpa only [AV.ids] using hi)⟩
 | .tup l, v, L, h, hL, hi => by
  simp only [SR] at h ⊢
  obtain ⟨vs, h1, h2⟩ := h
  exact ⟨vs, h1, SRs.same hF hs l vs L h2 hL (by simpa only [AV.ids] using hi)⟩
 | .clo g l, v, L, h, hL, hi => by
  simp only [SR] at h ⊢
  obtain ⟨vs, h1, h2⟩ := h
  exact ⟨vs, h1, SRs.same hF hs l vs L h2 hL (by simpa only [AV.ids] using hi)⟩
 | .tupn id l, v, L, h, hL, hi => by
  simp only [SR] at h ⊢
  obtain ⟨h0, vs, h1, h2⟩ := h
  exact ⟨by rw [hi id (by simp [AV.ids])]; exact h0, vs, h1, SRs.same hF hs l vs L h2 hL (fun i h => hi i (by simp [AV.ids, h]))⟩
 | .tupr x id l, v, L, h, hL, hi => by
  simp only [SR] at h ⊢
  obtain ⟨h0, vs, h1, h2⟩ := h
  exact ⟨by rw [hi id (by simp [AV.ids])]; exact h0, vs, h1, SRs.same hF hs l vs L h2 hL (fun i h => hi i (by simp [AV.ids, h]))⟩
 | .dead, v, L, h, _, _ => by simpa only [SR] using h
theorem SRs.same {F F' : Nat → Prop} {w w' : World} {ρ ρ' : Nat → Rho} (hF : ∀ g, F g → F' g) (hs : ∀ g, F g → Same w w' g) :
  ∀ (l : List AV) (vs : List Value) (L : List Nat), SRs F w ρ l vs L → (∀ g ∈ L, Same w w' g) → (∀ i ∈ AV.idss l, ρ' i = ρ i) → SRs F' w' ρ' l vs L
 | [], _, _, h, _, _ => by simpa only [SRs] using h
 | a :: l, vs, L, h, hL, hi => by
  simp only [SRs] at h ⊢
  obtain ⟨v, vs', L1, L2, rfl, rfl, h1, h2⟩ := h
  simp only [AV.idss, List.mem_append] at hi
  exact ⟨v, vs', L1, L2, rfl, rfl, SR.same hF hs a v L1 h1 (fun g hg => hL g (by simp [hg])) (fun i h => hi i (.inl h)), SRs.same hF hs l vs' L2 h2 (fun g hg => hL g (by simp [hg])) (fun i h => hi i (.inr h))⟩
end
structure Keep (w : World) (M : List Nat) (w' : World) : Prop where
 os : w'.os = w.os
 tape : w'.tape = w.tape
 output : w'.output = w.output
 size : w.heap.size ≤ w'.heap.size
 block : ∀ g, g < w.heap.size → g ∉ M → Same w w' g
 drawn : w.drawn ≤ w'.drawn
theorem Keep.refl (w : World) : Keep w [] w := ⟨rfl, rfl, rfl, Nat.le_refl _, fun _ _ _ => rfl, Nat.le_refl _⟩
theorem Keep.trans {a b c : World} {M N : List Nat} (h : Keep a M b) (k : Keep b N c) (hN : ∀ g ∈ N, g < a.heap.size → g ∈ M) : Keep a M c :=
 ⟨k.os.trans h.os, k.tape.trans h.tape, k.output.trans h.output, Nat.le_trans h.size k.size, fun g hg hM =>
  (k.block g (Nat.lt_of_lt_of_le hg h.size) (fun hn => hM (hN g hn hg))).trans (h.block g hg hM), Nat.le_trans h.drawn k.drawn⟩
theorem Keep.of_grown {w w' : World} {row : Option Nat} (h : w.grownBy w' row) (hd : w.drawn ≤ w'.drawn) : Keep w row.toList w' :=
 ⟨h.os, h.tape, h.output, h.size, fun g hg hM => h.block g hg (by rintro rfl; simp at hM), hd⟩
theorem Keep.alloc (w : World) (o : Obj) : Keep w [] (w.alloc o) := Keep.of_grown (World.grownBy_alloc w o none) (Nat.le_refl _)
theorem Keep.drew (w : World) : Keep w [] { w with drawn := w.drawn + 1 } := ⟨rfl, rfl, rfl, Nat.le_refl _, fun _ _ _ => rfl, Nat.le_succ _⟩
structure NN where
 fn : Nat → Bool
 K : List (Nat × Value)
 R : List (Nat × Rho)
 S : List (Value × List Int)
instance : CoeFun NN (fun _ => Nat → Bool) := ⟨NN.fn⟩
structure Fr where
 w0 : World
 M : List Nat
 N : NN
 H : List (Nat × Value)
 /-- The blocks that nobody writes as long as the frame runs, and that its arguments may lie in. -/
 F : Nat → Prop
 hF : ∀ g, F g → g < w0.heap.size ∧ g ∉ M
 /-- The names that some roots keep. -/
 R : List (Nat × Rho) := []
 hK : ∀ q ∈ N.K, q ∈ H
 hR : ∀ q ∈ N.R, q ∈ R
 hS : ∀ q ∈ N.S, ShRow F w0 q.1 1 (q.2.map (.int .i64))
def tmp (a : Act) (t : Nat) : Value := a.tmps.getD t undef
structure RepO (f : Fr) (X : Nat → Prop) (st : Nat → AV) (a : Act) (w : World) (ρ : Nat → Rho) (L : Nat → List Nat) : Prop where
 defers : a.defers = []
 size : ∀ d, f.N d = true → d < a.tmps.size
 hold : ∀ q ∈ f.H, f.N q.1 = false ∧ tmp a q.1 = q.2
 keep : Keep f.w0 f.M w
 slots : ∀ t, SR f.F w ρ (st t) (tmp a t) (L t)
 nodup : ∀ t, (L t).Nodup
 disj : ∀ t u, t ≠ u → ∀ g ∈ L t, g ∉ L u
 bound : ∀ t, ∀ g ∈ L t, g < w.heap.size ∧ ¬ f.F g
 ids : ∀ t, ∀ i ∈ (st t).ids, X i
 mine : ∀ t, ∀ g ∈ L t, g ∈ f.M ∨ f.w0.heap.size ≤ g
 names : ∀ q ∈ f.R, X q.1 ∧ ρ q.1 = q.2
def Rep (f : Fr) (X : Nat → Prop) (st : Nat → AV) (a : Act) (w : World) : Prop := ∃ ρ L, RepO f X st a w ρ L
section
variable {f : Fr} {X : Nat → Prop} {st : Nat → AV} {a : Act} {w : World} {ρ : Nat → Rho} {L : Nat → List Nat}
theorem RepO.F_lt (h : RepO f X st a w ρ L) {g : Nat} (hg : f.F g) : g < w.heap.size := Nat.lt_of_lt_of_le (f.hF g hg).1 h.keep.size
theorem RepO.rows (h : RepO f X st a w ρ L) : ∀ q ∈ f.N.S, ShRow f.F w q.1 1 (q.2.map (.int .i64)) :=
 fun q hq => (f.hS q hq).same (fun _ h => h) fun g hg => h.keep.block g (f.hF g hg).1 (f.hF g hg).2
theorem RepO.step (h : RepO f X st a w ρ L) (T : Nat → Prop) (Mw : List Nat) (X' : Nat → Prop) (st' : Nat → AV) (a' : Act) (w' : World) (ρ' : Nat → Rho) (L' : Nat → List Nat)
  (hd : a'.defers = a.defers) (hsize : a'.tmps.size = a.tmps.size) (hH : ∀ t, f.N t = false → tmp a' t = tmp a t) (hk : Keep w Mw w') (hM : ∀ g ∈ Mw, ∃ t, T t ∧ g ∈ L t) (hρ : ∀ i, X i → ρ' i = ρ i)
  (hsame : ∀ t, ¬ T t → st' t = st t ∧ tmp a' t = tmp a t ∧ L' t = L t)
  (hnew : ∀ t, T t → SR f.F w' ρ' (st' t) (tmp a' t) (L' t) ∧ (L' t).Nodup ∧ ∀ g ∈ L' t, g < w'.heap.size ∧ ((∃ u, T u ∧ g ∈ L u) ∨ w.heap.size ≤ g))
  (hdisj : ∀ t u, T t → T u → t ≠ u → ∀ g ∈ L' t, g ∉ L' u)
  (hX : ∀ i, X i → X' i) (hids : ∀ t, T t → ∀ i ∈ (st' t).ids, X' i) : RepO f X' st' a' w' ρ' L' := by
 have hF : ∀ g, f.F g → Same w w' g := fun g hg => hk.block g (h.F_lt hg) (fun hm => by
  obtain ⟨t, _, ht⟩ := hM g hm
  exact (h.bound t g ht).2 hg)
 have hL : ∀ t, ¬ T t → ∀ g ∈ L t, Same w w' g := fun t ht g hg => hk.block g (h.bound t g hg).1 (fun hm => by
  obtain ⟨u, hu, hgu⟩ := hM g hm
  exact h.disj t u (by rintro rfl; exact ht hu) g hg hgu)
 refine ⟨hd.trans h.defers, fun d hd => by rw [hsize]; exact h.size d hd, fun q hq => ⟨(h.hold q hq).1, (hH _ (h.hold q hq).1).trans (h.hold q hq).2⟩, h.keep.trans hk (fun g hg hlt => ?_), fun t => ?_, fun t => ?_, fun t u htu g hg hgu => ?_, fun t g hg => ?_, fun t i hi => ?_, fun t g hg => ?_, fun q hq => ⟨hX _ (h.names q hq).1, (hρ _ (h.names q hq).1).trans (h.names q hq).2⟩⟩
 ·obtain ⟨t, _, ht⟩ := hM g hg
  rcases h.mine t g ht with hm | hm
  ·exact hm
  ·omega
 ·by_cases ht : T t
  ·exact (hnew t ht).1
  ·obtain ⟨e1, e2, e3⟩ := hsame t ht
   rw [e1, e2, e3]
   exact SR.same (fun _ h => h) hF _ _ _ (h.slots t) (hL t ht) (fun i hi => hρ i (h.ids t i hi))
 ·by_cases ht : T t
  ·exact (hnew t ht).2.1
  ·rw [(hsame t ht).2.2]; exact h.nodup t
 ·by_cases ht : T t <;> by_cases hu : T u
  ·exact hdisj t u ht hu htu g hg hgu
  ·rw [(hsame u hu).2.2] at hgu
   rcases ((hnew t ht).2.2 g hg).2 with ⟨v, hv, hgv⟩ | hge
   ·exact h.disj v u (by rintro rfl; exact hu hv) g hgv hgu
   ·have := (h.bound u g hgu).1; omega
  ·rw [(hsame t ht).2.2] at hg
   rcases ((hnew u hu).2.2 g hgu).2 with ⟨v, hv, hgv⟩ | hge
   ·exact h.disj v t (by rintro rfl; exact ht hv) g hgv hg
   ·have := (h.bound t g hg).1; omega
  ·rw [(hsame t ht).2.2] at hg
   rw [(hsame u hu).2.2] at hgu
   exact h.disj t u htu g hg hgu
 ·by_cases ht : T t
  ·refine ⟨((hnew t ht).2.2 g hg).1, fun hf => ?_⟩
   rcases ((hnew t ht).2.2 g hg).2 with ⟨v, hv, hgv⟩ | hge
   ·exact (h.bound v g hgv).2 hf
   ·have := h.F_lt hf; omega
  ·rw [(hsame t ht).2.2] at hg
   exact ⟨Nat.lt_of_lt_of_le (h.bound t g hg).1 hk.size, (h.bound t g hg).2⟩
 ·by_cases ht : T t
  ·exact hids t ht i hi
  ·rw [(hsame t ht).1] at hi
   exact hX i (h.ids t i hi)
 ·by_cases ht : T t
  ·rcases ((hnew t ht).2.2 g hg).2 with ⟨v, hv, hgv⟩ | hge
   ·exact h.mine v g hgv
   ·exact .inr (Nat.le_trans h.keep.size hge)
  ·rw [(hsame t ht).2.2] at hg
   exact h.mine t g hg
end
def put (st : Nat → AV) (d : Nat) (v : AV) : Nat → AV := fun t => if t = d then v else st t
def puts (st : Nat → AV) : List (Nat × AV) → Nat → AV
 | [] => st
 | (d, v) :: l => puts (put st d v) l
theorem put_same (st : Nat → AV) (d : Nat) (v : AV) : put st d v d = v := by simp [put]
theorem put_other (st : Nat → AV) (d t : Nat) (v : AV) (h : t ≠ d) : put st d v t = st t := by simp [put, h]
theorem tmp_put_same (a : Act) (d : Nat) (v : Value) (h : d < a.tmps.size) : tmp (a.put (some d) v) d = v := by
 simp [tmp, Act.put, Array.getD_eq_getD_getElem?, h]
theorem tmp_put_other (a : Act) (d t : Nat) (v : Value) (h : t ≠ d) : tmp (a.put (some d) v) t = tmp a t := by
 simp [tmp, Act.put, Array.getD_eq_getD_getElem?, Ne.symm h]
theorem put_size (a : Act) (d : Option Nat) (v : Value) : (a.put d v).tmps.size = a.tmps.size := by cases d <;> simp [Act.put]
theorem put_defers (a : Act) (d : Option Nat) (v : Value) : (a.put d v).defers = a.defers := by cases d <;> rfl
theorem hold_put {N : Nat → Bool} {a : Act} {d : Nat} (v : Value) (hd : N d = true) : ∀ t, N t = false → tmp (a.put (some d) v) t = tmp a t :=
 fun t ht => tmp_put_other a d t v (by rintro rfl; rw [hd] at ht; cases ht)
section
variable {f : Fr} {X : Nat → Prop} {st : Nat → AV} {a : Act} {w : World} {ρ : Nat → Rho} {L : Nat → List Nat}
theorem RepO.put_light (h : RepO f X st a w ρ L) (d : Nat) (hd : f.N d = true) (av : AV) (v : Value) (w' : World) (hk : Keep w [] w')
  (hv : SR f.F w ρ av v []) (hids : ∀ i ∈ av.ids, X i) :
  RepO f X (put st d av) (a.put (some d) v) w' ρ (fun t => if t = d then [] else L t) := by
 refine h.step (fun t => t = d) [] X _ _ w' ρ _ (put_defers _ _ _) (put_size _ _ _) (hold_put _ hd) hk (fun g hg => by simp at hg) (fun _ _ => rfl) (fun t ht => ⟨put_other _ _ _ _ ht, tmp_put_other _ _ _ _ ht, by simp [ht]⟩) (fun t ht => ?_) (fun t u ht hu hne => absurd (ht.trans hu.symm) hne) (fun _ h => h) (fun t ht i hi => ?_)
 ·subst ht
  rw [put_same, tmp_put_same _ _ _ (h.size _ hd), if_pos rfl]
  exact ⟨SR.same (fun _ h => h) (fun g hg => hk.block g (h.F_lt hg) (by simp)) av v [] hv (fun g hg => by simp at hg) (fun _ _ => rfl), List.nodup_nil, fun g hg => by simp at hg⟩
 ·subst ht; rw [put_same] at hi; exact hids i hi
theorem RepO.put_new (h : RepO f X st a w ρ L) (d : Nat) (hd : f.N d = true) (id : Nat) (hid : ¬ X id) (D1 : D) (v : Value) (w' : World) (hk : Keep w [] w') (r : Rho) (L1 : List Nat)
  (hv : RD f.F w' D1 r v L1) (hn : L1.Nodup) (hL : ∀ g ∈ L1, g < w'.heap.size ∧ w.heap.size ≤ g) :
  RepO f (fun i => X i ∨ i = id) (put st d (.own id D1)) (a.put (some d) v) w' (fun i => if i = id then r else ρ i) (fun t => if t = d then L1 else L t) := by
 refine h.step (fun t => t = d) [] _ _ _ w' _ _ (put_defers _ _ _) (put_size _ _ _) (hold_put _ hd) hk (fun g hg => by simp at hg) (fun i hi => by rw [if_neg (by rintro rfl; exact hid hi)]) (fun t ht => ⟨put_other _ _ _ _ ht, tmp_put_other _ _ _ _ ht, by simp [ht]⟩) (fun t ht => ?_) (fun t u ht hu hne => absurd (ht.trans hu.symm) hne) (fun _ h => .inl h) (fun t ht i hi => ?_)
 ·subst ht
  rw [put_same, tmp_put_same _ _ _ (h.size _ hd), if_pos rfl]
  refine ⟨?_, hn, fun g hg => ⟨(hL g hg).1, .inr (hL g hg).2⟩⟩
  simp only [SR, if_true]
  exact hv
 ·subst ht; rw [put_same] at hi; simp only [AV.ids, List.mem_singleton] at hi; exact .inr hi
theorem RepO.done_light {K : Act → World → Prop} {nid : Nat} (h : RepO f X st a w ρ L) {d : Nat} {av : AV} (hK : ∀ a' w', Rep f (fun i => X i ∨ i = nid) (puts st [(d, av)]) a' w' → K a' w') (hd : f.N d = true) (v : Value) (w' : World) (hk : Keep w [] w')
  (hv : SR f.F w ρ av v []) (hids : ∀ i ∈ av.ids, X i) : K (a.put (some d) v) w' := by
 have k := h.put_light d hd av v w' hk hv hids
 exact hK _ _ ⟨ρ, _, ⟨k.defers, k.size, k.hold, k.keep, k.slots, k.nodup, k.disj, k.bound, fun t i hi => .inl (k.ids t i hi), k.mine, fun q hq => ⟨.inl (k.names q hq).1, (k.names q hq).2⟩⟩⟩
theorem RepO.done_lit {K : Act → World → Prop} {nid : Nat} (h : RepO f X st a w ρ L) {d : Nat} {v : Value} (hK : ∀ a' w', Rep f (fun i => X i ∨ i = nid) (puts st [(d, .c (.lit v))]) a' w' → K a' w') (hd : f.N d = true) (hv : v.oneCell' = true) : K (a.put (some d) v) w :=
 h.done_light hK hd v w (Keep.refl w) (by simp only [SR, RD]; exact ⟨trivial, fun _ => .bool true, trivial, hv, trivial⟩) (by simp [AV.ids])
theorem RepO.done_new {K : Act → World → Prop} (h : RepO f X st a w ρ L) {d : Nat} {id : Nat} {D1 : D} (hK : ∀ a' w', Rep f (fun i => X i ∨ i = id) (puts st [(d, .own id D1)]) a' w' → K a' w') (hd : f.N d = true) (hid : ¬ X id) (v : Value) (w' : World) (hk : Keep w [] w') (r : Rho) (L1 : List Nat)
  (hv : RD f.F w' D1 r v L1) (hn : L1.Nodup) (hL : ∀ g ∈ L1, g < w'.heap.size ∧ w.heap.size ≤ g) : K (a.put (some d) v) w' :=
 hK _ _ ⟨_, _, h.put_new d hd id hid D1 v w' hk r L1 hv hn hL⟩
theorem RepO.weaken (h : RepO f X st a w ρ L) {X' : Nat → Prop} (hX : ∀ i, X i → X' i) : RepO f X' st a w ρ L :=
 ⟨h.defers, h.size, h.hold, h.keep, h.slots, h.nodup, h.disj, h.bound, fun t i hi => hX i (h.ids t i hi), h.mine, fun q hq => ⟨hX _ (h.names q hq).1, (h.names q hq).2⟩⟩
end
structure After (f f' : Fr) : Prop where
 N : f'.N = f.N
 H : f'.H = f.H
 R : f'.R = f.R
 F : ∀ g, f.F g → f'.F g
 keep : Keep f.w0 f.M f'.w0
 M : ∀ g ∈ f'.M, g ∈ f.M ∨ f.w0.heap.size ≤ g
 new : ∀ g, f'.F g → f.F g ∨ g ∈ f.M ∨ f.w0.heap.size ≤ g
 still : f.N.S ≠ [] → f' = f
theorem After.refl (f : Fr) : After f f :=
 ⟨rfl, rfl, rfl, fun _ h => h, ⟨rfl, rfl, rfl, Nat.le_refl _, fun _ _ _ => rfl, Nat.le_refl _⟩, fun _ h => .inl h, fun _ h => .inl h, fun _ => rfl⟩
theorem After.trans {f f' f'' : Fr} (h : After f f') (k : After f' f'') : After f f'' :=
 ⟨k.N.trans h.N, k.H.trans h.H, k.R.trans h.R, fun g hg => k.F g (h.F g hg), h.keep.trans k.keep (fun g hg hlt => by
  rcases h.M g hg with h1 | h1
  ·exact h1
  ·omega), fun g hg => by
  rcases k.M g hg with h1 | h1
  ·exact h.M g h1
  ·exact .inr (Nat.le_trans h.keep.size h1), fun g hg => by
  rcases k.new g hg with h1 | h1 | h1
  ·exact h.new g h1
  ·rcases h.M g h1 with h2 | h2
   ·exact .inr (.inl h2)
   ·exact .inr (.inr h2)
  ·exact .inr (.inr (Nat.le_trans h.keep.size h1)), fun hs => by
  have e := h.still hs
  subst e
  exact k.still hs⟩
def RepX (f : Fr) (X : Nat → Prop) (st : Nat → AV) (a : Act) (w : World) : Prop := ∃ f', After f f' ∧ Rep f' X st a w
theorem RepX.of {f : Fr} {X : Nat → Prop} {st : Nat → AV} {a : Act} {w : World} (h : Rep f X st a w) : RepX f X st a w := ⟨f, .refl f, h⟩
theorem RepX.still {f : Fr} {X : Nat → Prop} {st : Nat → AV} {a : Act} {w : World} (hs : f.N.S ≠ []) (h : RepX f X st a w) : Rep f X st a w := by
 obtain ⟨f', k, h⟩ := h
 rwa [k.still hs] at h
def mark0 : List (Value × List Int) := [(.slice none 0 0, [])]
theorem RepX.up {f f' : Fr} {X : Nat → Prop} {st : Nat → AV} {a : Act} {w : World} (h : RepX f' X st a w) (k : After f f') : RepX f X st a w :=
 let ⟨f'', k', h⟩ := h
 ⟨f'', k.trans k', h⟩
end Go.Pv
namespace Go.Pv
open Go.RowKit
def Ok (P : Program) (n : NN) (o : Oper) (nid : Nat) (X : Nat → Prop) (st st' : Nat → AV) : Prop :=
 ∀ (f : Fr) (a : Act) (w : World), f.N = n → Rep f X st a w → ∀ (K : Act → World → Prop) (Q : Exit → Act → World → Prop),
  (∀ a' w', Rep f (fun i => X i ∨ i = nid) st' a' w' → K a' w') → o.wp P a w K Q
def Step (P : Program) (n : NN) (o : Oper) (nid : Nat) (st : Nat → AV) (rd : List Nat) (up : List (Nat × AV)) : Prop :=
 ∀ (X : Nat → Prop) (st' : Nat → AV), (∀ s ∈ rd, st' s = st s) → ¬ X nid → Ok P n o nid X st' (puts st' up)
def OkX (P : Program) (n : NN) (o : Oper) (nid : Nat) (X : Nat → Prop) (st st' : Nat → AV) : Prop :=
 ∀ (f : Fr) (a : Act) (w : World), f.N = n → RepX f X st a w → ∀ (K : Act → World → Prop) (Q : Exit → Act → World → Prop),
  (∀ a' w', RepX f (fun i => X i ∨ i = nid) st' a' w' → K a' w') → o.wp P a w K Q
theorem Ok.x {P : Program} {n : NN} {o : Oper} {nid : Nat} {X : Nat → Prop} {st st' : Nat → AV} (h : Ok P n o nid X st st') : OkX P n o nid X st st' :=
 fun _ a w hn ⟨f', k, hr⟩ K Q hK => h f' a w (k.N.trans hn) hr K Q fun a' w' r => hK a' w' ⟨f', k, r⟩
def StepX (P : Program) (n : NN) (o : Oper) (nid : Nat) (st : Nat → AV) (rd : List Nat) (up : List (Nat × AV)) : Prop :=
 ∀ (X : Nat → Prop) (st' : Nat → AV), (∀ s ∈ rd, st' s = st s) → ¬ X nid → OkX P n o nid X st' (puts st' up)
theorem Step.x {P : Program} {n : NN} {o : Oper} {nid : Nat} {st : Nat → AV} {rd : List Nat} {up : List (Nat × AV)} (h : Step P n o nid st rd up) : StepX P n o nid st rd up :=
 fun X st' hs hX => (h X st' hs hX).x
section
variable {P : Program} {n : NN} {nid : Nat} {st : Nat → AV}
theorem wV_ {o : Oper} {a : Act} {w w' : World} {K : Act → World → Prop} {Q : Exit → Act → World → Prop} {u : Value}
  (hr : (execOp a.eval o).run P w = .ok (.value u) w') (hK : K (a.put o.dst u) w') : o.wp P a w K Q := by
 unfold Oper.wp
 rw [hr]
 exact hK
theorem wp_of_skip {o : Oper} {a : Act} {w w' : World} {K : Act → World → Prop} {Q : Exit → Act → World → Prop}
  (hr : (execOp a.eval o).run P w = .ok .skip w') (hK : K (a.put o.dst undef) w') : o.wp P a w K Q := by
 unfold Oper.wp
 rw [hr]
 exact hK
def Lit (st : Nat → AV) : Operand → Value → Prop
 | .tmp t, v => st t = .c (.lit v)
 | .const u, v => u = v
 | .func f, v => Value.func (.func f) #[] #[] = v
 | .global _, _ => False
def rdOf : Operand → List Nat
 | .tmp t => [t]
 | _ => []
theorem Lit.agree {st st' : Nat → AV} {x : Operand} {v : Value} (h : Lit st x v) (hs : ∀ s ∈ rdOf x, st' s = st s) : Lit st' x v := by
 cases x with
 | tmp t => simp only [Lit] at *; rw [hs t (by simp [rdOf])]; exact h
 | _ => exact h
theorem Lit.eval {f : Fr} {X : Nat → Prop} {st : Nat → AV} {a : Act} {w : World} {ρ : Nat → Rho} {L : Nat → List Nat} (h : RepO f X st a w ρ L) {x : Operand} {v : Value} (hx : Lit st x v) : a.eval x = v := by
 cases x with
 | tmp t =>
  have := h.slots t
  simp only [Lit] at hx
  rw [hx] at this
  simp only [SR, RD] at this
  exact this.2.choose_spec.1
 | const u => exact hx
 | func f => exact hx
 | global g => exact hx.elim
theorem step_pure {o : Oper} {d : Nat} {u : Value} (xs : List (Operand × Value)) (hdst : o.dst = some d) (hd : n d = true) (hu : u.oneCell' = true)
  (hl : ∀ p ∈ xs, Lit st p.1 p.2)
  (hrun : ∀ (ev : Operand → Value) (w : World), (∀ p ∈ xs, ev p.1 = p.2) → (execOp ev o).run P w = .ok (.value u) w) :
  Step P n o nid st (xs.flatMap fun p => rdOf p.1) [(d, .c (.lit u))] := by
 intro X st' hs hX f a w hn hrep K Q hK
 obtain ⟨ρ, L, h⟩ := hrep
 subst hn
 refine wV_ (hrun a.eval w fun p hp => Lit.eval h ((hl p hp).agree fun s hs' => hs s (List.mem_flatMap.2 ⟨p, hp, hs'⟩))) (hK _ _ ⟨ρ, fun t => if t = d then [] else L t, ?_⟩)
 rw [hdst]
 exact (h.put_light d hd (.c (.lit u)) u w (Keep.refl w) (by simp only [SR, RD]; exact ⟨trivial, fun _ => .bool true, trivial, hu, trivial⟩) (by simp [AV.ids])).weaken (fun i hi => .inl hi)
theorem step_move_c {d t : Nat} {dd : D} {ty pos aft g} (h : st t = .c dd) (hd : n d = true) :
  Step P n ⟨some d, .move (.tmp t), ty, pos, aft, g⟩ nid st [t] [(d, .c dd)] := by
 intro X st' hs hX f a w hn hrep K Q hK
 obtain ⟨ρ, L, hr⟩ := hrep
 subst hn
 have ht : st' t = .c dd := (hs t (by simp)).trans h
 have hv := hr.slots t
 rw [ht] at hv
 refine wV_ (u := tmp a t) (w' := w) rfl (hK _ _ ⟨ρ, _, (hr.put_light d hd (.c dd) (tmp a t) w (Keep.refl w) ?_ (by simp [AV.ids])).weaken (fun i hi => .inl hi)⟩)
 simp only [SR] at hv ⊢
 exact ⟨trivial, hv.2⟩
theorem step_const {d : Nat} {u : Value} {ty pos aft g} (hu : u.oneCell' = true) (hd : n d = true) :
  Step P n ⟨some d, .assign (.const u), ty, pos, aft, g⟩ nid st [] [(d, .c (.lit u))] :=
 step_pure [(.const u, u)] rfl hd hu (by simp [Lit]) (fun ev w h => by simp only [execOp, h (.const u, u) (by simp)]; rfl)
theorem step_move_const {d : Nat} {u : Value} {ty pos aft g} (hu : u.oneCell' = true) (hd : n d = true) :
  Step P n ⟨some d, .move (.const u), ty, pos, aft, g⟩ nid st [] [(d, .c (.lit u))] :=
 step_pure [(.const u, u)] rfl hd hu (by simp [Lit]) (fun ev w h => by simp only [execOp, h (.const u, u) (by simp)]; rfl)
theorem step_assign_c {d t : Nat} {dd : D} {ty pos aft g} (h : st t = .c dd) (hd : n d = true) :
  Step P n ⟨some d, .assign (.tmp t), ty, pos, aft, g⟩ nid st [t] [(d, .c dd)] := by
 intro X st' hs hX f a w hn hrep K Q hK
 exact step_move_c (P := P) (ty := ty) (pos := pos) (aft := aft) (g := g) h hd X st' hs hX f a w hn hrep K Q hK
theorem step_move_own {d t id : Nat} {sz : Nat} {cs : List D} {ty pos aft g} (h : st t = .own id (.sl true sz cs)) (hd : n d = true) :
  Step P n ⟨some d, .move (.tmp t), ty, pos, aft, g⟩ nid st [t] [(d, .als t id [])] := by
 intro X st' hs hX f a w hn hrep K Q hK
 obtain ⟨ρ, L, hr⟩ := hrep
 subst hn
 have ht : st' t = _ := (hs t (by simp)).trans h
 have hv := hr.slots t
 have hi := hr.ids t
 rw [ht] at hv hi
 refine wV_ (u := tmp a t) (w' := w) rfl (hK _ _ ⟨ρ, _, (hr.put_light d hd (.als t id []) (tmp a t) w (Keep.refl w) ?_ (by simpa [AV.ids] using hi)).weaken (fun i hi => .inl hi)⟩)
 simp only [SR, RD] at hv ⊢
 exact ⟨trivial, hv.1⟩
theorem step_move_pt {d t id : Nat} {cs : List D} {ty pos aft g} (h : st t = .own id (.pt true cs)) (hd : n d = true) :
  Step P n ⟨some d, .move (.tmp t), ty, pos, aft, g⟩ nid st [t] [(d, .ptr t id [] 0)] := by
 intro X st' hs hX f a w hn hrep K Q hK
 obtain ⟨ρ, L, hr⟩ := hrep
 subst hn
 have ht : st' t = _ := (hs t (by simp)).trans h
 have hv := hr.slots t
 have hi := hr.ids t
 rw [ht] at hv hi
 refine wV_ (u := tmp a t) (w' := w) rfl (hK _ _ ⟨ρ, _, (hr.put_light d hd (.ptr t id [] 0) (tmp a t) w (Keep.refl w) ?_ (by simpa [AV.ids] using hi)).weaken (fun i hi => .inl hi)⟩)
 simp only [SR, RD] at hv ⊢
 obtain ⟨e, g, us, L1, _, e2, _⟩ := hv
 refine ⟨trivial, ⟨g, 0, none⟩, ?_, ?_⟩
 ·rw [← e, e2]; rfl
 ·rw [e2]; rfl
def AV.light : AV → Bool
 | .c _ | .als .. | .sub .. | .ptr .. | .sptr .. => true
 | _ => false
theorem SR.light {F : Nat → Prop} {w : World} {ρ : Nat → Rho} {a : AV} {v : Value} {L : List Nat} (h : SR F w ρ a v L) (hl : a.light = true) : SR F w ρ a v [] := by
 cases a <;> simp [AV.light] at hl <;> simp only [SR] at h ⊢ <;> exact ⟨trivial, h.2⟩
theorem step_copy {o : Oper} {d t : Nat} {av : AV} (hop : o.op = .move (.tmp t) ∨ o.op = .assign (.tmp t)) (hdst : o.dst = some d) (h : st t = av) (hl : av.light = true) (hd : n d = true) :
  Step P n o nid st [t] [(d, av)] := by
 intro X st' hs hX f a w hn hrep K Q hK
 obtain ⟨ρ, L, hr⟩ := hrep
 subst hn
 have ht : st' t = av := (hs t (by simp)).trans h
 have hv := hr.slots t
 have hi := hr.ids t
 rw [ht] at hv hi
 refine wV_ (u := tmp a t) (w' := w) ?_ (hK _ _ ⟨ρ, fun t => if t = d then [] else L t, ?_⟩)
 ·rcases hop with e | e <;> simp only [execOp, e] <;> rfl
 ·rw [hdst]
  exact (hr.put_light d hd av (tmp a t) w (Keep.refl w) (hv.light hl) hi).weaken (fun i hi => .inl hi)
theorem step_move_light {d t : Nat} {av : AV} {ty pos aft g} (h : st t = av) (hl : av.light = true) (hd : n d = true) :
  Step P n ⟨some d, .move (.tmp t), ty, pos, aft, g⟩ nid st [t] [(d, av)] := step_copy (.inl rfl) rfl h hl hd
theorem step_assign_light {d t : Nat} {av : AV} {ty pos aft g} (h : st t = av) (hl : av.light = true) (hd : n d = true) :
  Step P n ⟨some d, .assign (.tmp t), ty, pos, aft, g⟩ nid st [t] [(d, av)] := step_copy (.inr rfl) rfl h hl hd
theorem step_assign_own {d t id : Nat} {dd : D} {ty pos aft g} (h : st t = .own id dd) (hd : n d = true) (hdt : d ≠ t) :
  Step P n ⟨some d, .assign (.tmp t), ty, pos, aft, g⟩ nid st [t] [(t, .dead), (d, .own nid dd)] := by
 intro X st' hs hX f a w hn hrep K Q hK
 obtain ⟨ρ, L, hr⟩ := hrep
 subst hn
 have ht : st' t = _ := (hs t (by simp)).trans h
 have hv := hr.slots t
 rw [ht] at hv
 simp only [SR] at hv
 refine wV_ (u := tmp a t) (w' := w) rfl (hK _ _ ⟨fun i => if i = nid then ρ id else ρ i, fun s => if s = d then L t else if s = t then [] else L s, ?_⟩)
 refine hr.step (fun s => s = d ∨ s = t) [] _ _ _ w _ _ (put_defers _ _ _) (put_size _ _ _) (hold_put _ hd) (Keep.refl w) (by simp) (fun i hi => by rw [if_neg (by rintro rfl; exact hX hi)])
  (fun s hs' => ?_) (fun s hs' => ?_) (fun s u hs' hu hne g hg hgu => ?_) (fun _ h => .inl h) (fun s hs' i hi => ?_)
 ·have h1 : s ≠ d := fun e => hs' (.inl e)
  have h2 : s ≠ t := fun e => hs' (.inr e)
  exact ⟨by simp [puts, put, h1, h2], tmp_put_other _ _ _ _ h1, by simp [h1, h2]⟩
 ·rcases hs' with rfl | rfl
  ·simp only [puts, put_same, tmp_put_same _ _ _ (hr.size _ hd), if_true, SR]
   exact ⟨hv, hr.nodup t, fun g hg => ⟨(hr.bound t g hg).1, .inl ⟨t, .inr rfl, hg⟩⟩⟩
  ·simp only [puts, put_other _ _ _ _ hdt.symm, put_same, if_neg hdt.symm, if_true, SR]
   exact ⟨trivial, List.nodup_nil, fun g hg => by simp at hg⟩
 ·rcases hs' with rfl | rfl <;> rcases hu with rfl | rfl
  ·exact hne rfl
  ·simp [hdt.symm] at hgu
  ·simp [hdt.symm] at hg
  ·exact hne rfl
 ·rcases hs' with rfl | rfl
  ·simp only [puts, put_same, AV.ids, List.mem_singleton] at hi; exact .inr hi
  ·simp [puts, put_other _ _ _ _ hdt.symm, put_same, AV.ids] at hi
end
end Go.Pv
namespace Go.Pv
open Go.RowKit
class SliceTy (P : Program) (T : TypeId) (sz : outParam Nat) : Prop where
 out : ∃ e i z, P.underlying T = some (.slice e) ∧ P.info? e = some i ∧ i.size = sz ∧ 0 < sz ∧ sz ≤ 16 ∧ i.bytes ≤ 128 ∧ i.zero = some z ∧ z.cells.size = sz
class OneTy (P : Program) (T : TypeId) : Prop where
 out : ∃ d i, P.underlying T = some d ∧ (match d with | .struct _ | .array _ _ => false | _ => true) = true ∧ P.info? T = some i ∧ i.size = 1
class StructTy (P : Program) (T : TypeId) (sz : outParam Nat) : Prop where
 out : ∃ fs i, P.underlying T = some (.struct fs) ∧ P.info? T = some i ∧ i.size = sz
def Rho.shift (ρ : Rho) (i : Nat) : Rho := fun π => match π with
 | [] => ρ []
 | j :: q => ρ ((j + i) :: q)
section
variable {F : Nat → Prop} {w : World}
theorem RDs.shift : ∀ (ds : List D) (k i : Nat) (ρ : Rho) (us : List Value) (L : List Nat), RDs F w ds (k + i) ρ us L → RDs F w ds k (ρ.shift i) us L
 | [], _, _, _, _, _, h => by simpa only [RDs] using h
 | d :: ds, k, i, ρ, us, L, h => by
  simp only [RDs] at h ⊢
  obtain ⟨u, us', L1, L2, rfl, rfl, h1, h2⟩ := h
  exact ⟨u, us', L1, L2, rfl, rfl, h1, RDs.shift ds (k + 1) i ρ us' L2 (by rw [show k + 1 + i = k + i + 1 from by omega]; exact h2)⟩
theorem RDs.unshift : ∀ (ds : List D) (k i : Nat) (ρ : Rho) (us : List Value) (L : List Nat), RDs F w ds k ρ us L → RDs F w ds (k + i) (fun π => match π with | [] => ρ [] | j :: q => ρ ((j - i) :: q)) us L
 | [], _, _, _, _, _, h => by simpa only [RDs] using h
 | d :: ds, k, i, ρ, us, L, h => by
  simp only [RDs] at h ⊢
  obtain ⟨u, us', L1, L2, rfl, rfl, h1, h2⟩ := h
  refine ⟨u, us', L1, L2, rfl, rfl, ?_, ?_⟩
  ·refine RD.rho d (ρ.at k) _ u L1 h1 (fun π => ?_)
   simp [Rho.at]
  ·have := RDs.unshift ds (k + 1) i ρ us' L2 h2
   rw [show k + 1 + i = k + i + 1 from by omega] at this
   exact this
theorem RDs.append : ∀ (ds es : List D) (k : Nat) (ρ : Rho) (us vs : List Value) (L M : List Nat), RDs F w ds k ρ us L → RDs F w es (k + ds.length) ρ vs M → RDs F w (ds ++ es) k ρ (us ++ vs) (L ++ M)
 | [], es, k, ρ, us, vs, L, M, h, h' => by
  simp only [RDs] at h
  obtain ⟨rfl, rfl⟩ := h
  simpa using h'
 | d :: ds, es, k, ρ, us, vs, L, M, h, h' => by
  simp only [RDs, List.cons_append] at h ⊢
  obtain ⟨u, us', L1, L2, rfl, rfl, h1, h2⟩ := h
  refine ⟨u, us' ++ vs, L1, L2 ++ M, by simp, by simp, h1, RDs.append ds es (k + 1) ρ us' vs L2 M h2 ?_⟩
  rw [show k + 1 + ds.length = k + (d :: ds).length from by simp; omega]
  exact h'
theorem RDs.rest : ∀ (i : Nat) (ds : List D) (k : Nat) (ρ : Rho) (us : List Value), RDs F w ds k ρ us [] → RDs F w (ds.drop i) (k + min i ds.length) ρ (us.drop i) []
 | 0, ds, k, ρ, us, h => by simpa using h
 | i + 1, [], k, ρ, us, h => by
  simp only [RDs] at h
  obtain ⟨rfl, _⟩ := h
  simp [RDs]
 | i + 1, d :: ds, k, ρ, us, h => by
  simp only [RDs] at h
  obtain ⟨u, us', L1, L2, rfl, e, h1, h2⟩ := h
  simp only [List.nil_eq, List.append_eq_nil_iff] at e
  obtain ⟨rfl, rfl⟩ := e
  have := RDs.rest i ds (k + 1) ρ us' h2
  simp only [List.drop_succ_cons, List.length_cons]
  rw [show k + min (i + 1) (ds.length + 1) = k + 1 + min i ds.length from by omega]
  exact this
theorem RDs.take : ∀ (i : Nat) (ds : List D) (k : Nat) (ρ : Rho) (us : List Value), RDs F w ds k ρ us [] → RDs F w (ds.take i) k ρ (us.take i) []
 | 0, ds, k, ρ, us, _ => by simp [RDs]
 | i + 1, [], k, ρ, us, h => by
  simp only [RDs] at h
  obtain ⟨rfl, _⟩ := h
  simp [RDs]
 | i + 1, d :: ds, k, ρ, us, h => by
  simp only [RDs] at h
  obtain ⟨u, us', L1, L2, rfl, e, h1, h2⟩ := h
  simp only [List.nil_eq, List.append_eq_nil_iff] at e
  obtain ⟨rfl, rfl⟩ := e
  simp only [List.take_succ_cons, RDs]
  exact ⟨u, us'.take i, [], [], rfl, rfl, h1, RDs.take i ds (k + 1) ρ us' h2⟩
theorem RDs.cut (i m : Nat) (ds : List D) (k : Nat) (ρ : Rho) (us : List Value) (h : RDs F w ds k ρ us []) : ∃ ρ', RDs F w ((ds.drop i).take m) 0 ρ' ((us.drop i).take m) [] := by
 have h1 := RDs.take m _ _ _ _ (RDs.rest i ds k ρ us h)
 have h2 := RDs.shift _ 0 (k + min i ds.length) _ _ _ (by simpa using h1)
 exact ⟨_, h2⟩
theorem ShRow.cut {v : Value} {sz : Nat} {us : List Value} {a : Option Addr} {n c lo m : Nat} {a1 : Option Addr} {c1 : Nat} (h : ShRow F w v sz us) (hv : v = .slice a n c) (hb : lo + m ≤ n) (hmc : m ≤ c1) (hc : c1 ≤ maxLen) (ha : m ≠ 0 → a1 = a.map (·.add (lo * sz))) :
  ShRow F w (.slice a1 m c1) sz ((us.drop (lo * sz)).take (m * sz)) := by
 obtain ⟨a', n', c', e, h1, h2, h3, h4⟩ := h
 rw [hv] at e
 simp only [Value.slice.injEq] at e
 obtain ⟨rfl, rfl, rfl⟩ := e
 have hle : lo * sz + m * sz ≤ n * sz := by rw [← Nat.add_mul]; exact Nat.mul_le_mul_right _ hb
 refine ⟨a1, m, c1, rfl, ?_, hmc, hc, fun hne => ?_⟩
 ·rw [List.length_take, List.length_drop]; omega
 ·have hm0 : m ≠ 0 := by
   rintro rfl
   simp at hne
  have hus : us ≠ [] := by
   rintro rfl
   simp at hne
  obtain ⟨b, rfl, hb1, hb2⟩ := h4 hus
  refine ⟨b.add (lo * sz), by rw [ha hm0]; rfl, by rw [add_block]; exact hb1, fun j u hu => ?_⟩
  rw [List.getElem?_take] at hu
  split at hu
  ·rw [List.getElem?_drop] at hu
   have := hb2 _ u hu
   rw [← this]
   congr 1
   unfold Addr.add
   by_cases e1 : lo * sz = 0 <;> by_cases e2 : j = 0 <;> simp [e1, e2]
   omega
  ·cases hu
end
inductive View (st : Nat → AV) : Operand → List Nat → Nat → List D → Prop
 | sh {t sz cs} : st t = .c (.sl false sz cs) → View st (.tmp t) [t] sz cs
 | root {t id sz cs} : st t = .own id (.sl true sz cs) → View st (.tmp t) [t] sz cs
 | als {t x id path d sz cs} : st t = .als x id path → st x = .own id d → d.nav path = some (.sl true sz cs) → View st (.tmp t) [t, x] sz cs
 | sub {t x id path d sz lo n cs} : st t = .sub x id path sz lo n → st x = .own id d → d.nav path = some (.sl true sz cs) → View st (.tmp t) [t, x] sz ((cs.drop (lo * sz)).take (n * sz))
 | nil {sz} : View st (.const (.slice none 0 0)) [] sz []
section
variable {P : Program} {n : NN} {nid : Nat} {st : Nat → AV} {f : Fr} {X : Nat → Prop} {a : Act} {w : World} {ρ : Nat → Rho} {L : Nat → List Nat}
theorem View.agree {st st' : Nat → AV} {x : Operand} {rd : List Nat} {sz : Nat} {cs : List D} (h : View st x rd sz cs) (hs : ∀ s ∈ rd, st' s = st s) : View st' x rd sz cs := by
 cases h with
 | sh h => exact .sh ((hs _ (by simp)).trans h)
 | root h => exact .root ((hs _ (by simp)).trans h)
 | als h1 h2 h3 => exact .als ((hs _ (by simp)).trans h1) ((hs _ (by simp)).trans h2) h3
 | sub h1 h2 h3 => exact .sub ((hs _ (by simp)).trans h1) ((hs _ (by simp)).trans h2) h3
 | nil => exact .nil
theorem RepO.part (h : RepO f X st a w ρ L) {x id : Nat} {d d1 : D} {path : List Nat} (hx : st x = .own id d) (hn : d.nav path = some d1) :
  ∃ v1 A L1 B, L x = A ++ (L1 ++ B) ∧ RD f.F w d1 ((ρ id).sub path) v1 L1 ∧
   ∀ (w' : World) (d1' : D) (ρ1' : Rho) (L1' : List Nat), (∀ g, f.F g → Same w w' g) → (∀ g, g ∈ A ∨ g ∈ B → Same w w' g) → RD f.F w' d1' ρ1' v1 L1' →
    RD f.F w' (d.put path d1') ((ρ id).set path ρ1') (tmp a x) (A ++ (L1' ++ B)) := by
 have hv := h.slots x
 rw [hx] at hv
 simp only [SR] at hv
 exact RD.focus path d (ρ id) (tmp a x) (L x) hv d1 hn
theorem Rho.sub_nil (ρ : Rho) (path : List Nat) : ρ.sub path [] = ρ path := by simp [Rho.sub]
theorem RepO.live_lt (h : RepO f X st a w ρ L) : ∀ g, f.F g → g < w.heap.size := fun _ hg => h.F_lt hg
theorem RepO.partSl (h : RepO f X st a w ρ L) {x id sz : Nat} {d : D} {cs : List D} {path : List Nat} (hx : st x = .own id d) (hn : d.nav path = some (.sl true sz cs)) :
  ∃ us L0 L1, Row w (ρ id path) sz us L0 ∧ RDs f.F w cs 0 ((ρ id).sub path) us L1 ∧ (∀ g, g ∈ L0 ∨ g ∈ L1 → g ∈ L x) := by
 obtain ⟨v1, A, L1, B, e, h1, _⟩ := h.part hx hn
 simp only [RD] at h1
 obtain ⟨rfl, us, L0, L2, rfl, h2, h3⟩ := h1
 rw [Rho.sub_nil] at h2
 exact ⟨us, L0, L2, h2, h3, fun g hg => by rw [e]; simp; rcases hg with hg | hg <;> simp [hg]⟩
theorem Row.shRow {v : Value} {sz : Nat} {us : List Value} {L0 : List Nat} (h : Row w v sz us L0) (hL : ∀ g ∈ L0, g < w.heap.size) : ShRow (fun g => g < w.heap.size) w v sz us := by
 rcases h with ⟨rfl, rfl, rfl⟩ | ⟨g, o, n, cap, cur, e, h1, h2, h3, h4, h5, h6, h7, rfl⟩
 ·exact ⟨none, 0, 0, rfl, by simp, Nat.le_refl _, Nat.zero_le _, fun h => absurd rfl h⟩
 ·refine ⟨some ⟨g, o, none⟩, n, cap, h1, h3, h4, h5, fun _ => ⟨_, rfl, hL g (by simp), fun j u hu => ?_⟩⟩
  rw [addr_off]
  exact cell_off h2 h7 hu
theorem View.read (h : RepO f X st a w ρ L) {x : Operand} {rd : List Nat} {sz : Nat} {cs : List D} (hv : View st x rd sz cs) :
  ∃ us r, ShRow (fun g => g < w.heap.size) w (a.eval x) sz us ∧ RDs (fun g => g < w.heap.size) w (D.erases cs) 0 r us [] := by
 cases hv with
 | @sh t sz cs ht =>
  have := h.slots t
  rw [ht] at this
  simp only [SR, RD] at this
  obtain ⟨_, r, _, us, h1, h2⟩ := this
  exact ⟨us, r, h1.same h.live_lt (fun _ _ => rfl), RDs.erase h.live_lt cs 0 r us [] h2 (by simp)⟩
 | @root t id sz cs ht =>
  obtain ⟨us, L0, L1, h1, h2, h3⟩ := h.partSl (path := []) ht rfl
  have e : a.eval (.tmp t) = ρ id [] := by
   have := h.slots t
   rw [ht] at this
   simp only [SR, RD] at this
   exact this.1
  rw [e]
  exact ⟨us, _, h1.shRow (fun g hg => (h.bound t g (h3 g (.inl hg))).1), RDs.erase h.live_lt cs 0 _ us L1 h2 (fun g hg => (h.bound t g (h3 g (.inr hg))).1)⟩
 | @als t x id path d sz cs ht hx hn =>
  obtain ⟨us, L0, L1, h1, h2, h3⟩ := h.partSl hx hn
  have e : a.eval (.tmp t) = ρ id path := by
   have := h.slots t
   rw [ht] at this
   simp only [SR] at this
   exact this.2
  rw [e]
  exact ⟨us, _, h1.shRow (fun g hg => (h.bound x g (h3 g (.inl hg))).1), RDs.erase h.live_lt cs 0 _ us L1 h2 (fun g hg => (h.bound x g (h3 g (.inr hg))).1)⟩
 | @sub t x id path d sz lo n cs ht hx hn =>
  obtain ⟨us, L0, L1, h1, h2, h3⟩ := h.partSl hx hn
  have := h.slots t
  rw [ht] at this
  simp only [SR] at this
  obtain ⟨_, a0, n0, c0, a1, c1, e1, e2, e3, e4, e5, e6⟩ := this
  have hsh := h1.shRow (fun g hg => (h.bound x g (h3 g (.inl hg))).1)
  have her := RDs.erase (F' := fun g => g < w.heap.size) h.live_lt cs 0 _ us L1 h2 (fun g hg => (h.bound x g (h3 g (.inr hg))).1)
  obtain ⟨r, hr⟩ := RDs.cut (lo * sz) (n * sz) _ _ _ _ her
  refine ⟨_, r, ?_, by rw [D.erases_eq, List.map_take, List.map_drop, ← D.erases_eq]; exact hr⟩
  change ShRow _ _ (tmp a t) _ _
  rw [e2]
  exact hsh.cut e1 e3 e4 e5 (fun hne => (e6 hne).2)
 | nil => exact ⟨[], fun _ => undef, ⟨none, 0, 0, rfl, by simp, Nat.le_refl _, Nat.zero_le _, fun h => absurd rfl h⟩, by simp [D.erases, RDs]⟩
theorem step_len {d : Nat} {x : Operand} {T : TypeId} {sz sz' : Nat} {cs : List D} {rd : List Nat} {ty pos aft g} [SliceTy P T sz'] (hv : View st x rd sz cs) (m : Nat) (hm : cs.length = m * sz) (hsz : 0 < sz) (hd : n d = true) :
  Step P n ⟨some d, .call ⟨.builtin .len, #[x], #[T]⟩, ty, pos, aft, g⟩ nid st rd [(d, .c (.lit (.int .i64 m)))] := by
 intro X st' hs hX f a w hn hrep K Q hK
 obtain ⟨ρ, L, h⟩ := hrep
 subst hn
 obtain ⟨us, r, ⟨a0, n0, c0, e0, h1, h2, h3, _⟩, h5⟩ := (hv.agree hs).read h
 obtain ⟨e, i, z, t1, _⟩ := (SliceTy.out (P := P) (T := T) (sz := sz'))
 have hl := h5.length
 rw [D.erases_eq, List.length_map, ← h1, hm] at hl
 have en : n0 = m := Nat.eq_of_mul_eq_mul_right hsz hl
 subst en
 refine wV_ (u := .int .i64 n0) (w' := w) ?_ (h.done_lit hK hd rfl)
 simp [execOp, resolve, invoke, builtin, e0, Builtin.len_, run_underlying t1, goInt]
theorem run_index {T : TypeId} {sz : Nat} [ht : SliceTy P T sz] (w : World) (b : Addr) (len cap : Nat) (k : IntKind) (m : Nat) (hm : m < len) :
  (Instr.indexAt T (.slice (some b) len cap) (.int k (m : Int))).run P w = .ok (.pointer (some (b.add (m * sz)))) w := by
 obtain ⟨e, i, z, t1, t2, t3, _⟩ := ht.out
 have : (m : Int) < (len : Int) := by omega
 simp [Instr.indexAt, run_underlying t1, asIntOf, hm, sizeOf, typeInfo, t2, t3]
theorem add_add (b : Addr) (i j : Nat) : (b.add i).add j = b.add (i + j) := by
 unfold Addr.add
 by_cases e1 : i = 0 <;> by_cases e2 : j = 0 <;> simp [e1, e2]
 omega
theorem step_index_sh {d t : Nat} {xi : Operand} {T : TypeId} {sz m : Nat} {k : IntKind} {j : Int} {cs : List D} {ty pos aft g} [SliceTy P T sz] (h : st t = .c (.sl false sz cs)) (hi : Lit st xi (.int k j)) (hj : j = (m : Int)) (hm : m * sz + sz ≤ cs.length) (hd : n d = true) :
  Step P n ⟨some d, .indexAddr T (.tmp t) xi, ty, pos, aft, g⟩ nid st (t :: rdOf xi) [(d, .sptr cs (m * sz))] := by
 intro X st' hs hX f a w hn hrep K Q hK
 obtain ⟨ρ, L, hr⟩ := hrep
 subst hn
 have ht := hr.slots t
 rw [(hs t (by simp)).trans h] at ht
 simp only [SR, RD] at ht
 obtain ⟨_, r, _, us, ⟨a0, n0, c0, e0, h1, h2, h3, h4⟩, h5⟩ := ht
 have ei := Lit.eval hr (hi.agree fun s hs' => hs s (by simp [hs']))
 obtain ⟨e, i, z, t1, t2, t3, t4, _⟩ := (SliceTy.out (P := P) (T := T) (sz := sz))
 have hl := h5.length
 have hne : us ≠ [] := by rintro rfl; simp at hl; omega
 obtain ⟨b, rfl, hb, hc⟩ := h4 hne
 have hlt : m < n0 := by
  have : (m + 1) * sz ≤ n0 * sz := by rw [Nat.add_mul]; omega
  have := Nat.le_of_mul_le_mul_right this t4
  omega
 refine wV_ (u := .pointer (some (b.add (m * sz)))) (w' := w) ?_ (hr.done_light hK hd _ w (Keep.refl w) ?_ (by simp [AV.ids]))
 ·have e1 : a.eval (.tmp t) = _ := e0
  simp only [execOp, e1, ei, hj, Sem.run_bind, run_index w b n0 c0 k m hlt, Result.andThen_ok, Sem.run_pure]
 ·simp only [SR]
  exact ⟨trivial, b, us, r, rfl, hb, hc, h5⟩
theorem baseOf_row {v : Value} {sz : Nat} {us : List Value} {L0 : List Nat} (h : Row w v sz us L0) (hne : us ≠ []) :
  ∃ g o n cap, v = .slice (some ⟨g, o, none⟩) n cap ∧ n * sz = us.length ∧ baseOf v = some ⟨g, o, none⟩ ∧ L0 = [g] ∧ (∀ (j : Nat) (u : Value), us[j]? = some u → w.cell? ⟨g, o + j, none⟩ = some u) ∧ ∀ j, w.frozen? ⟨g, j, none⟩ = false := by
 rcases h with ⟨_, rfl, _⟩ | ⟨g, o, n, cap, cur, e, rfl, h2, h3, h4, h5, h6, h7, rfl⟩
 ·exact absurd rfl hne
 ·refine ⟨g, o, n, cap, rfl, h3, rfl, rfl, fun j u hu => cell_off h2 h7 hu, fun j => ?_⟩
  simp [World.frozen?, h2]
theorem step_index_als {d t x id : Nat} {path : List Nat} {dd : D} {xi : Operand} {T : TypeId} {sz m : Nat} {k : IntKind} {j : Int} {cs : List D} {ty pos aft g} [SliceTy P T sz] (h : st t = .als x id path) (hx : st x = .own id dd) (hn' : dd.nav path = some (.sl true sz cs))
  (hi : Lit st xi (.int k j)) (hj : j = (m : Int)) (hm : m * sz + sz ≤ cs.length) (hd : n d = true) :
  Step P n ⟨some d, .indexAddr T (.tmp t) xi, ty, pos, aft, g⟩ nid st (t :: x :: rdOf xi) [(d, .ptr x id path (m * sz))] := by
 intro X st' hs hX f a w hn hrep K Q hK
 obtain ⟨ρ, L, hr⟩ := hrep
 subst hn
 have ht := hr.slots t
 have hids := hr.ids t
 rw [(hs t (by simp)).trans h] at ht hids
 simp only [SR] at ht
 obtain ⟨us, L0, L1, h1, h5, h6⟩ := hr.partSl ((hs x (by simp)).trans hx) hn'
 have ei := Lit.eval hr (hi.agree fun s hs' => hs s (by simp [hs']))
 obtain ⟨e, i, z, t1, t2, t3, t4, _⟩ := (SliceTy.out (P := P) (T := T) (sz := sz))
 have hl := h5.length
 have hne : us ≠ [] := by rintro rfl; simp at hl; omega
 obtain ⟨g0, o0, n0, c0, e0, h7, h8, _⟩ := baseOf_row h1 hne
 have hlt : m < n0 := by
  have : (m + 1) * sz ≤ n0 * sz := by rw [Nat.add_mul]; omega
  have := Nat.le_of_mul_le_mul_right this t4
  omega
 refine wV_ (u := .pointer (some ((⟨g0, o0, none⟩ : Addr).add (m * sz)))) (w' := w) ?_ (hr.done_light hK hd _ w (Keep.refl w) ?_ (by simpa [AV.ids] using hids))
 ·have e1 : a.eval (.tmp t) = _ := ht.2.trans e0
  simp only [execOp, e1, ei, hj, Sem.run_bind, run_index w _ n0 c0 k m hlt, Result.andThen_ok, Sem.run_pure]
 ·simp only [SR]
  exact ⟨trivial, _, h8, rfl⟩
theorem step_index_root {d t id : Nat} {xi : Operand} {T : TypeId} {sz m : Nat} {k : IntKind} {j : Int} {cs : List D} {ty pos aft g} [SliceTy P T sz] (h : st t = .own id (.sl true sz cs))
  (hi : Lit st xi (.int k j)) (hj : j = (m : Int)) (hm : m * sz + sz ≤ cs.length) (hd : n d = true) :
  Step P n ⟨some d, .indexAddr T (.tmp t) xi, ty, pos, aft, g⟩ nid st (t :: rdOf xi) [(d, .ptr t id [] (m * sz))] := by
 intro X st' hs hX f a w hn hrep K Q hK
 obtain ⟨ρ, L, hr⟩ := hrep
 subst hn
 have ht := hr.slots t
 have hids := hr.ids t
 have hst := (hs t (by simp)).trans h
 rw [hst] at ht hids
 simp only [SR, RD] at ht
 obtain ⟨us, L0, L1, h1, h5, h6⟩ := hr.partSl (path := []) hst rfl
 have ei := Lit.eval hr (hi.agree fun s hs' => hs s (by simp [hs']))
 obtain ⟨e, i, z, t1, t2, t3, t4, _⟩ := (SliceTy.out (P := P) (T := T) (sz := sz))
 have hl := h5.length
 have hne : us ≠ [] := by rintro rfl; simp at hl; omega
 obtain ⟨g0, o0, n0, c0, e0, h7, h8, _⟩ := baseOf_row h1 hne
 have hlt : m < n0 := by
  have : (m + 1) * sz ≤ n0 * sz := by rw [Nat.add_mul]; omega
  have := Nat.le_of_mul_le_mul_right this t4
  omega
 refine wV_ (u := .pointer (some ((⟨g0, o0, none⟩ : Addr).add (m * sz)))) (w' := w) ?_ (hr.done_light hK hd _ w (Keep.refl w) ?_ (by simpa [AV.ids] using hids))
 ·have e1 : a.eval (.tmp t) = _ := ht.1.trans e0
  simp only [execOp, e1, ei, hj, Sem.run_bind, run_index w _ n0 c0 k m hlt, Result.andThen_ok, Sem.run_pure]
 ·simp only [SR]
  exact ⟨trivial, _, h8, rfl⟩
theorem step_index_sub {d t x id : Nat} {path : List Nat} {dd : D} {xi : Operand} {T : TypeId} {sz m lo nn : Nat} {k : IntKind} {j : Int} {cs : List D} {ty pos aft g} [SliceTy P T sz] (h : st t = .sub x id path sz lo nn) (hx : st x = .own id dd) (hn' : dd.nav path = some (.sl true sz cs))
  (hi : Lit st xi (.int k j)) (hj : j = (m : Int)) (hm : m < nn) (hd : n d = true) :
  Step P n ⟨some d, .indexAddr T (.tmp t) xi, ty, pos, aft, g⟩ nid st (t :: x :: rdOf xi) [(d, .ptr x id path ((lo + m) * sz))] := by
 intro X st' hs hX f a w hn hrep K Q hK
 obtain ⟨ρ, L, hr⟩ := hrep
 subst hn
 have ht := hr.slots t
 have hids := hr.ids t
 rw [(hs t (by simp)).trans h] at ht hids
 simp only [SR] at ht
 obtain ⟨_, a0, n0, c0, a1, c1, f1, f2, f3, f4, f5, f6⟩ := ht
 obtain ⟨us, L0, L1, h1, h5, h6⟩ := hr.partSl ((hs x (by simp)).trans hx) hn'
 have ei := Lit.eval hr (hi.agree fun s hs' => hs s (by simp [hs']))
 obtain ⟨e, i, z, t1, t2, t3, t4, _⟩ := (SliceTy.out (P := P) (T := T) (sz := sz))
 have hne : us ≠ [] := by
  rintro rfl
  rcases h1 with ⟨e1, _⟩ | ⟨g, o, n1, cap, cur, e, e1, _, e3, _⟩
  ·rw [e1] at f1; simp at f1; omega
  ·rw [e1] at f1
   simp only [Value.slice.injEq] at f1
   have : n1 = 0 := by
    rcases Nat.mul_eq_zero.1 (by simpa using e3) with h | h <;> omega
   omega
 obtain ⟨g0, o0, n1, cp, e0, h7, h8, _⟩ := baseOf_row h1 hne
 rw [e0] at f1
 simp only [Value.slice.injEq] at f1
 obtain ⟨rfl, rfl, rfl⟩ := f1
 have f7 := (f6 (by omega)).2
 simp only [Option.map_some] at f7
 refine wV_ (u := .pointer (some ((⟨g0, o0, none⟩ : Addr).add ((lo + m) * sz)))) (w' := w) ?_ (hr.done_light hK hd _ w (Keep.refl w) ?_ (by simpa [AV.ids] using hids))
 ·have e1 : a.eval (.tmp t) = _ := f2
  rw [f7] at e1
  simp only [execOp, e1, ei, hj, Sem.run_bind, run_index w _ nn c1 k m hm, Result.andThen_ok, Sem.run_pure, add_add, ← Nat.add_mul]
 ·simp only [SR]
  exact ⟨trivial, _, h8, rfl⟩
theorem step_index_header {d t x id : Nat} {path : List Nat} {xi : Operand} {T : TypeId} {sz m lo nn : Nat} {k : IntKind} {j : Int} {ty pos aft g} [SliceTy P T sz] (h : st t = .sub x id path sz lo nn)
  (hi : Lit st xi (.int k j)) (hj : j = (m : Int)) (hm : m < nn) (hd : n d = true) :
  Step P n ⟨some d, .indexAddr T (.tmp t) xi, ty, pos, aft, g⟩ nid st (t :: rdOf xi) [(d, .ptr x id path ((lo + m) * sz))] := by
 intro X st' hs hX f a w hn hrep K Q hK
 obtain ⟨ρ, L, hr⟩ := hrep
 subst hn
 have ht := hr.slots t
 have hids := hr.ids t
 rw [(hs t (by simp)).trans h] at ht hids
 simp only [SR] at ht
 obtain ⟨_, a0, n0, c0, a1, c1, f1, f2, f3, f4, f5, f6⟩ := ht
 have ei := Lit.eval hr (hi.agree fun s hs' => hs s (by simp [hs']))
 obtain ⟨f7, f8⟩ := f6 (by omega)
 obtain ⟨b, rfl⟩ := Option.isSome_iff_exists.1 f7
 simp only [Option.map_some] at f8
 refine wV_ (u := .pointer (some (b.add ((lo + m) * sz)))) (w' := w) ?_ (hr.done_light hK hd _ w (Keep.refl w) ?_ (by simpa [AV.ids] using hids))
 ·have e1 : a.eval (.tmp t) = _ := f2
  rw [f8] at e1
  simp only [execOp, e1, ei, hj, Sem.run_bind, run_index w _ nn c1 k m hm, Result.andThen_ok, Sem.run_pure, add_add, ← Nat.add_mul]
 ·simp only [SR]
  exact ⟨trivial, b, by rw [f1]; rfl, rfl⟩
end
end Go.Pv
namespace Go.Pv
open Go.RowKit
def cellAV (x id : Nat) (p : List Nat) : D → AV
 | .lit v => .c (.lit v)
 | .sl true _ _ => .als x id p
 | .pt true _ => .ptr x id p 0
 | .hole => .dead
 | d => .c d
def cellAVs (x id : Nat) (path : List Nat) : Nat → List D → List AV
 | _, [] => []
 | k, d :: ds => cellAV x id (path ++ [k]) d :: cellAVs x id path (k + 1) ds
section
variable {P : Program} {n : NN} {nid : Nat} {st : Nat → AV} {f : Fr} {X : Nat → Prop} {a : Act} {w : World} {ρ : Nat → Rho} {L : Nat → List Nat}
theorem run_load_one {T : TypeId} [ht : OneTy P T] (w : World) (b : Addr) (v : Value) (h : w.cell? b = some v) : (Instr.loadAt T (.pointer (some b))).run P w = .ok v w := by
 obtain ⟨d, i, t1, t2, t3, t4⟩ := ht.out
 cases d <;> simp at t2 <;> simp [Instr.loadAt, Instr.sureAddr, loadVar, isAgg, run_underlying t1, h]
theorem run_load_struct {T : TypeId} {sz : Nat} [ht : StructTy P T sz] (w : World) (b : Addr) (vs : List Value) (hl : vs.length = sz) (h : ∀ j v, vs[j]? = some v → w.cell? (b.add j) = some v) :
  (Instr.loadAt T (.pointer (some b))).run P w = .ok (.agg vs.toArray) w := by
 obtain ⟨fs, i, t1, t2, t3⟩ := ht.out
 have := run_loadCells_list (P := P) w b vs h
 rw [hl] at this
 simp [Instr.loadAt, Instr.sureAddr, loadVar, isAgg, run_underlying t1, sizeOf, typeInfo, t2, t3, this]
theorem add_zero' (b : Addr) : b.add 0 = b := by simp [Addr.add]
theorem addr_row (g j : Nat) : (⟨g, 0, none⟩ : Addr).add j = ⟨g, j, none⟩ := by unfold Addr.add; split <;> simp_all
theorem step_load_sh {d t off : Nat} {T : TypeId} {cs : List D} {c : D} {ty pos aft g} [OneTy P T] (h : st t = .sptr cs off) (hc : cs[off]? = some c) (hd : n d = true) :
  Step P n ⟨some d, .load T (.tmp t), ty, pos, aft, g⟩ nid st [t] [(d, .c c)] := by
 intro X st' hs hX f a w hn hrep K Q hK
 obtain ⟨ρ, L, hr⟩ := hrep
 subst hn
 have ht := hr.slots t
 rw [(hs t (by simp)).trans h] at ht
 simp only [SR] at ht
 obtain ⟨_, b, us, r, e0, hb, hcell, h5⟩ := ht
 obtain ⟨u, A, L1, B, hu, e, h6, _⟩ := RDs.at cs 0 r us [] h5 off c hc
 have e' := e.symm
 simp only [List.append_eq_nil_iff] at e'
 obtain ⟨rfl, rfl, rfl⟩ := e'
 refine wV_ (u := u) (w' := w) ?_ (hr.done_light hK hd _ w (Keep.refl w) (by simp only [SR]; exact ⟨trivial, _, h6⟩) (by simp [AV.ids]))
 have e1 : a.eval (.tmp t) = _ := e0
 simp only [execOp, e1, Sem.run_bind, run_load_one w _ u (hcell off u hu), Result.andThen_ok, Sem.run_pure]
theorem SRs_of_RDs {F : Nat → Prop} {w : World} {ρ : Nat → Rho} : ∀ (ds : List D) (k : Nat) (r : Rho) (us : List Value), RDs F w ds k r us [] → SRs F w ρ (ds.map AV.c) us []
 | [], _, _, _, h => by simpa only [RDs, SRs, List.map_nil] using h
 | d :: ds, k, r, us, h => by
  simp only [RDs] at h
  obtain ⟨u, us', L1, L2, rfl, e, h1, h2⟩ := h
  simp only [List.nil_eq, List.append_eq_nil_iff] at e
  obtain ⟨rfl, rfl⟩ := e
  simp only [List.map_cons, SRs]
  exact ⟨u, us', [], [], rfl, rfl, by simp only [SR]; exact ⟨trivial, _, h1⟩, SRs_of_RDs ds (k + 1) r us' h2⟩
theorem idss_map_c (l : List D) : AV.idss (l.map AV.c) = [] := by
 induction l with
 | nil => rfl
 | cons d l ih => simp [AV.idss, AV.ids, ih]
theorem step_loads_sh {d t off sz : Nat} {T : TypeId} {cs : List D} {ty pos aft g} [StructTy P T sz] (h : st t = .sptr cs off) (hc : off + sz ≤ cs.length) (hd : n d = true) :
  Step P n ⟨some d, .load T (.tmp t), ty, pos, aft, g⟩ nid st [t] [(d, .agg (((cs.drop off).take sz).map AV.c))] := by
 intro X st' hs hX f a w hn hrep K Q hK
 obtain ⟨ρ, L, hr⟩ := hrep
 subst hn
 have ht := hr.slots t
 rw [(hs t (by simp)).trans h] at ht
 simp only [SR] at ht
 obtain ⟨_, b, us, r, e0, hb, hcell, h5⟩ := ht
 obtain ⟨r', h6⟩ := RDs.cut off sz cs 0 r us h5
 have hl := h5.length
 refine wV_ (u := .agg ((us.drop off).take sz).toArray) (w' := w) ?_ (hr.done_light hK hd _ w (Keep.refl w) (by simp only [SR]; exact ⟨_, rfl, SRs_of_RDs _ _ _ _ h6⟩) (by simp only [AV.ids, idss_map_c]; simp))
 have e1 : a.eval (.tmp t) = _ := e0
 simp only [execOp, e1, Sem.run_bind]
 rw [run_load_struct (T := T) w _ ((us.drop off).take sz) (by rw [List.length_take, List.length_drop]; omega) (fun j u hu => ?_)]
 ·rfl
 ·rw [List.getElem?_take] at hu
  split at hu
  ·rw [List.getElem?_drop] at hu
   rw [add_add]
   exact hcell _ u hu
  ·cases hu
theorem RepO.partKids (h : RepO f X st a w ρ L) {x id : Nat} {d d1 : D} {cs : List D} {path : List Nat} (hx : st x = .own id d) (hn : d.nav path = some d1) (hk : d1.kids = some cs) (hne : cs ≠ []) :
  ∃ g o us L1, baseOf (ρ id path) = some ⟨g, o, none⟩ ∧ g ∈ L x ∧ (∀ g' ∈ L1, g' ∈ L x) ∧ RDs f.F w cs 0 ((ρ id).sub path) us L1 ∧ (∀ (j : Nat) (u : Value), us[j]? = some u → w.cell? ⟨g, o + j, none⟩ = some u) ∧ (∀ j, w.frozen? ⟨g, j, none⟩ = false) := by
 obtain ⟨v1, A, L1, B, e, h1, _⟩ := h.part hx hn
 have hsub : ∀ g', g' ∈ L1 → g' ∈ L x := fun g' hg => by rw [e]; simp [hg]
 cases d1 with
 | lit v => simp [D.kids] at hk
 | hole => simp [D.kids] at hk
 | fn g cs => simp [D.kids] at hk
 | sl own sz cs' =>
  cases own
  ·simp [D.kids] at hk
  ·simp only [D.kids, Option.some.injEq] at hk
   subst hk
   simp only [RD] at h1
   obtain ⟨rfl, us, L0, L2, rfl, h2, h3⟩ := h1
   rw [Rho.sub_nil] at h2
   have hus : us ≠ [] := by
    rintro rfl
    exact hne (List.eq_nil_of_length_eq_zero (by simpa using h3.length.symm))
   obtain ⟨g, o, n0, cap, e1, e2, e3, rfl, e5, e6⟩ := baseOf_row h2 hus
   exact ⟨g, o, us, L2, e3, hsub g (by simp), fun g' hg => hsub g' (by simp [hg]), h3, e5, e6⟩
 | pt own cs' =>
  cases own
  ·simp [D.kids] at hk
  ·simp only [D.kids, Option.some.injEq] at hk
   subst hk
   simp only [RD] at h1
   obtain ⟨e0, g, us, L2, ty, rfl, rfl, h2, h3⟩ := h1
   rw [Rho.sub_nil] at e0
   refine ⟨g, 0, us, L2, by rw [← e0]; rfl, hsub g (by simp), fun g' hg => hsub g' (by simp [hg]), h3, fun j u hu => ?_, fun j => by simp [World.frozen?, h2]⟩
   rw [Nat.zero_add, cell_of_row w g j us.toArray ty (0, 0) h2]
   simpa using hu
theorem SR_cellAV {F : Nat → Prop} {w : World} {ρ : Nat → Rho} {x id : Nat} {p : List Nat} {c : D} {r : Rho} {u : Value} {L1 : List Nat} (h : RD F w c r u L1) (hr : r [] = ρ id p) : SR F w ρ (cellAV x id p c) u [] := by
 cases c with
 | lit v => simp only [cellAV, SR]; simp only [RD] at h; exact ⟨trivial, r, by simp only [RD]; exact ⟨h.1, h.2.1, trivial⟩⟩
 | hole => simp only [cellAV, SR]
 | fn g cs =>
  simp only [cellAV, SR]
  simp only [RD] at h
  exact ⟨trivial, r, by simp only [RD]; exact ⟨trivial, h.2⟩⟩
 | sl own sz cs =>
  cases own
  ·simp only [cellAV, SR]
   simp only [RD] at h
   exact ⟨trivial, r, by simp only [RD]; exact ⟨trivial, h.2⟩⟩
  ·simp only [cellAV, SR]
   simp only [RD] at h
   exact ⟨trivial, by rw [← hr]; exact h.1⟩
 | pt own cs =>
  cases own
  ·simp only [cellAV, SR]
   simp only [RD] at h
   exact ⟨trivial, r, by simp only [RD]; exact ⟨trivial, h.2⟩⟩
  ·simp only [cellAV, SR]
   simp only [RD] at h
   obtain ⟨e, g, us, L2, ty, e1, _⟩ := h
   exact ⟨trivial, ⟨g, 0, none⟩, by rw [← hr, ← e, e1]; rfl, by rw [e1]; rfl⟩
theorem cellAV_ids {x id : Nat} {p : List Nat} {c : D} : ∀ i ∈ (cellAV x id p c).ids, i = id := by
 cases c with
 | lit v => simp [cellAV, AV.ids]
 | hole => simp [cellAV, AV.ids]
 | fn g cs => simp [cellAV, AV.ids]
 | sl own sz cs => cases own <;> simp [cellAV, AV.ids]
 | pt own cs => cases own <;> simp [cellAV, AV.ids]
theorem step_load {d t x id off : Nat} {path : List Nat} {T : TypeId} {dd d1 : D} {cs : List D} {c : D} {ty pos aft g} [OneTy P T] (h : st t = .ptr x id path off) (hx : st x = .own id dd) (hn' : dd.nav path = some d1) (hk : d1.kids = some cs) (hc : cs[off]? = some c) (hd : n d = true) :
  Step P n ⟨some d, .load T (.tmp t), ty, pos, aft, g⟩ nid st [t, x] [(d, cellAV x id (path ++ [off]) c)] := by
 intro X st' hs hX f a w hn hrep K Q hK
 obtain ⟨ρ, L, hr⟩ := hrep
 subst hn
 have ht := hr.slots t
 have hids := hr.ids t
 rw [(hs t (by simp)).trans h] at ht hids
 simp only [SR] at ht
 obtain ⟨_, b, hb, e0⟩ := ht
 obtain ⟨g0, o0, us, L1, hb', hg, hL1, h5, h6, _⟩ := hr.partKids ((hs x (by simp)).trans hx) hn' hk (by rintro rfl; simp at hc)
 rw [hb] at hb'
 simp only [Option.some.injEq] at hb'
 subst hb'
 obtain ⟨u, A, M, B, hu, e, h7, _⟩ := RDs.at cs 0 _ us L1 h5 off c hc
 refine wV_ (u := u) (w' := w) ?_ (hr.done_light hK hd _ w (Keep.refl w) (SR_cellAV h7 ?_) (fun i hi => ?_))
 ·have e1 : a.eval (.tmp t) = _ := e0
  rw [addr_off] at e1
  simp only [execOp, e1, Sem.run_bind, run_load_one w _ u (h6 off u hu), Result.andThen_ok, Sem.run_pure]
 ·simp [Rho.at, Rho.sub]
 ·rw [cellAV_ids i hi]; exact hids id (by simp [AV.ids])
theorem SRs_cells {F : Nat → Prop} {w : World} {ρ : Nat → Rho} {x id : Nat} {path : List Nat} : ∀ (ds : List D) (k : Nat) (r : Rho) (us : List Value) (M : List Nat), RDs F w ds k r us M → (∀ j, r [j] = ρ id (path ++ [j])) → SRs F w ρ (cellAVs x id path k ds) us []
 | [], _, _, _, _, h, _ => by simp only [RDs] at h; simp only [cellAVs, SRs]; exact ⟨h.1, trivial⟩
 | d :: ds, k, r, us, M, h, hr => by
  simp only [RDs] at h
  obtain ⟨u, us', L1, L2, rfl, e, h1, h2⟩ := h
  simp only [cellAVs, SRs]
  exact ⟨u, us', [], [], rfl, rfl, SR_cellAV h1 (hr k), SRs_cells ds (k + 1) r us' L2 h2 hr⟩
theorem cellAVs_ids {x id : Nat} {path : List Nat} : ∀ (ds : List D) (k : Nat), ∀ i ∈ AV.idss (cellAVs x id path k ds), i = id
 | [], k, i, h => by simp [cellAVs, AV.idss] at h
 | d :: ds, k, i, h => by
  simp only [cellAVs, AV.idss, List.mem_append] at h
  rcases h with h | h
  ·exact cellAV_ids i h
  ·exact cellAVs_ids ds (k + 1) i h
theorem RDs.part {F : Nat → Prop} {w : World} : ∀ (i : Nat) (ds : List D) (k : Nat) (ρ : Rho) (us : List Value) (M : List Nat), RDs F w ds k ρ us M → i ≤ ds.length → ∃ M', RDs F w (ds.drop i) (k + i) ρ (us.drop i) M'
 | 0, ds, k, ρ, us, M, h, _ => ⟨M, by simpa using h⟩
 | i + 1, [], k, ρ, us, M, _, hi => by simp at hi
 | i + 1, d :: ds, k, ρ, us, M, h, hi => by
  simp only [RDs] at h
  obtain ⟨u, us', L1, L2, rfl, e, h1, h2⟩ := h
  obtain ⟨M', h3⟩ := RDs.part i ds (k + 1) ρ us' L2 h2 (by simpa using hi)
  exact ⟨M', by rw [show k + (i + 1) = k + 1 + i from by omega]; simpa using h3⟩
theorem RDs.takeM {F : Nat → Prop} {w : World} : ∀ (i : Nat) (ds : List D) (k : Nat) (ρ : Rho) (us : List Value) (M : List Nat), RDs F w ds k ρ us M → ∃ M', RDs F w (ds.take i) k ρ (us.take i) M'
 | 0, ds, k, ρ, us, M, _ => ⟨[], by simp [RDs]⟩
 | i + 1, [], k, ρ, us, M, h => by
  simp only [RDs] at h
  obtain ⟨rfl, _⟩ := h
  exact ⟨[], by simp [RDs]⟩
 | i + 1, d :: ds, k, ρ, us, M, h => by
  simp only [RDs] at h
  obtain ⟨u, us', L1, L2, rfl, e, h1, h2⟩ := h
  obtain ⟨M', h3⟩ := RDs.takeM i ds (k + 1) ρ us' L2 h2
  simp only [List.take_succ_cons, RDs]
  exact ⟨L1 ++ M', u, us'.take i, L1, M', rfl, rfl, h1, h3⟩
theorem step_loads {d t x id off sz : Nat} {path : List Nat} {T : TypeId} {dd d1 : D} {cs : List D} {ty pos aft g} [StructTy P T sz] (h : st t = .ptr x id path off) (hx : st x = .own id dd) (hn' : dd.nav path = some d1) (hk : d1.kids = some cs) (hc : off + sz ≤ cs.length) (hz : 0 < sz) (hd : n d = true) :
  Step P n ⟨some d, .load T (.tmp t), ty, pos, aft, g⟩ nid st [t, x] [(d, .agg (cellAVs x id path off ((cs.drop off).take sz)))] := by
 intro X st' hs hX f a w hn hrep K Q hK
 obtain ⟨ρ, L, hr⟩ := hrep
 subst hn
 have ht := hr.slots t
 have hids := hr.ids t
 rw [(hs t (by simp)).trans h] at ht hids
 simp only [SR] at ht
 obtain ⟨_, b, hb, e0⟩ := ht
 obtain ⟨g0, o0, us, L1, hb', hg, hL1, h5, h6, _⟩ := hr.partKids ((hs x (by simp)).trans hx) hn' hk (by rintro rfl; simp at hc; omega)
 rw [hb] at hb'
 simp only [Option.some.injEq] at hb'
 subst hb'
 have hl := h5.length
 obtain ⟨M', h7⟩ := RDs.part off cs 0 _ us L1 h5 (by omega)
 obtain ⟨M2, h8⟩ := RDs.takeM sz _ _ _ _ _ h7
 rw [Nat.zero_add] at h8
 refine wV_ (u := .agg ((us.drop off).take sz).toArray) (w' := w) ?_ (hr.done_light hK hd _ w (Keep.refl w) ?_ (fun i hi => ?_))
 ·have e1 : a.eval (.tmp t) = _ := e0
  simp only [execOp, e1, Sem.run_bind]
  rw [run_load_struct (T := T) w _ ((us.drop off).take sz) (by rw [List.length_take, List.length_drop]; omega) (fun j u hu => ?_)]
  ·rfl
  ·rw [List.getElem?_take] at hu
   split at hu
   ·rw [List.getElem?_drop] at hu
    rw [add_add, addr_off]
    exact h6 _ u hu
   ·cases hu
 ·simp only [SR]
  exact ⟨_, rfl, SRs_cells _ _ _ _ _ h8 (fun j => by simp [Rho.sub])⟩
 ·simp only [AV.ids] at hi
  rw [cellAVs_ids _ _ i hi]; exact hids id (by simp [AV.ids])
class FieldTy (P : Program) (T : TypeId) (k : Nat) (off : outParam Nat) : Prop where
 out : ∃ fs fd i, P.underlying T = some (.struct fs) ∧ fs[k]? = some fd ∧ fd.offset = off ∧ P.info? fd.type = some i ∧ i.size ≠ 0
theorem run_field {T : TypeId} {k o : Nat} [ht : FieldTy P T k o] (w : World) (b : Addr) : (Instr.fieldAt T (.pointer (some b)) k).run P w = .ok (.pointer (some (b.add o))) w := by
 obtain ⟨fs, fd, i, t1, t2, t3, t4, t5⟩ := ht.out
 simp [Instr.fieldAt, run_underlying t1, t2, Instr.sureAddr, fieldPlace, sizeOf, typeInfo, t4, t5, t3]
theorem step_field {d t x id off k o : Nat} {path : List Nat} {T : TypeId} {ty pos aft g} [FieldTy P T k o] (h : st t = .ptr x id path off) (hd : n d = true) :
  Step P n ⟨some d, .fieldAddr T (.tmp t) k, ty, pos, aft, g⟩ nid st [t] [(d, .ptr x id path (off + o))] := by
 intro X st' hs hX f a w hn hrep K Q hK
 obtain ⟨ρ, L, hr⟩ := hrep
 subst hn
 have ht := hr.slots t
 have hids := hr.ids t
 rw [(hs t (by simp)).trans h] at ht hids
 simp only [SR] at ht
 obtain ⟨_, b, hb, e0⟩ := ht
 refine wV_ (u := .pointer (some (b.add (off + o)))) (w' := w) ?_ (hr.done_light hK hd _ w (Keep.refl w) (by simp only [SR]; exact ⟨trivial, b, hb, rfl⟩) (by simpa [AV.ids] using hids))
 have e1 : a.eval (.tmp t) = _ := e0
 simp only [execOp, e1, Sem.run_bind, run_field w, Result.andThen_ok, Sem.run_pure, add_add]
theorem step_field_root {d t id k o : Nat} {cs : List D} {T : TypeId} {ty pos aft g} [FieldTy P T k o] (h : st t = .own id (.pt true cs)) (hd : n d = true) :
  Step P n ⟨some d, .fieldAddr T (.tmp t) k, ty, pos, aft, g⟩ nid st [t] [(d, .ptr t id [] o)] := by
 intro X st' hs hX f a w hn hrep K Q hK
 obtain ⟨ρ, L, hr⟩ := hrep
 subst hn
 have ht := hr.slots t
 have hids := hr.ids t
 rw [(hs t (by simp)).trans h] at ht hids
 simp only [SR, RD] at ht
 obtain ⟨e, g0, us, L1, ty', e0, _⟩ := ht
 refine wV_ (u := .pointer (some ((⟨g0, 0, none⟩ : Addr).add o))) (w' := w) ?_ (hr.done_light hK hd _ w (Keep.refl w) (by simp only [SR]; exact ⟨trivial, ⟨g0, 0, none⟩, by rw [← e, e0]; rfl, rfl⟩) (by simpa [AV.ids] using hids))
 have e1 : a.eval (.tmp t) = _ := e0
 simp only [execOp, e1, Sem.run_bind, run_field w, Result.andThen_ok, Sem.run_pure]
theorem step_field_sh {d t off k o : Nat} {cs : List D} {T : TypeId} {ty pos aft g} [FieldTy P T k o] (h : st t = .sptr cs off) (hd : n d = true) :
  Step P n ⟨some d, .fieldAddr T (.tmp t) k, ty, pos, aft, g⟩ nid st [t] [(d, .sptr cs (off + o))] := by
 intro X st' hs hX f a w hn hrep K Q hK
 obtain ⟨ρ, L, hr⟩ := hrep
 subst hn
 have ht := hr.slots t
 rw [(hs t (by simp)).trans h] at ht
 simp only [SR] at ht
 obtain ⟨_, b, us, r, e0, h1, h2, h3⟩ := ht
 refine wV_ (u := .pointer (some (b.add (off + o)))) (w' := w) ?_ (hr.done_light hK hd _ w (Keep.refl w) (by simp only [SR]; exact ⟨trivial, b, us, r, rfl, h1, h2, h3⟩) (by simp [AV.ids]))
 have e1 : a.eval (.tmp t) = _ := e0
 simp only [execOp, e1, Sem.run_bind, run_field w, Result.andThen_ok, Sem.run_pure, add_add]
end
end Go.Pv
namespace Go.Pv
open Go.RowKit
section
variable {P : Program} {n : NN} {nid : Nat} {st : Nat → AV} {f : Fr} {X : Nat → Prop} {a : Act} {w : World} {ρ : Nat → Rho} {L : Nat → List Nat}
theorem Rho.set_sub : ∀ (ρ : Rho) (path : List Nat), ρ.set path (ρ.sub path) = ρ
 | ρ, [] => by funext q; simp [Rho.set, Rho.sub]
 | ρ, k :: path => by
  simp only [Rho.set]
  have : ρ.sub (k :: path) = (ρ.at k).sub path := by funext q; simp [Rho.sub, Rho.at]
  rw [this, Rho.set_sub, Rho.upd_at]
theorem setCell_heap_same (w : World) (g j : Nat) (u : Value) (cur : Array Value) (e : TypeId) (fr : Nat × Nat) (h : w.heap[g]? = some (.cells cur e fr)) : (w.setCell ⟨g, j, none⟩ u).heap[g]? = some (.cells (cur.setIfInBounds j u) e fr) := by
 have hlt : g < w.heap.size := (Array.getElem?_eq_some_iff.1 h).1
 have hv : w.heap[g] = .cells cur e fr := (Array.getElem?_eq_some_iff.1 h).2
 unfold World.setCell
 rw [Array.getElem?_eq_getElem (by simpa using hlt), Array.getElem_modify]
 simp [hv]
theorem setCell_heap_other (w : World) (g j g' : Nat) (u : Value) (h : g' ≠ g) : (w.setCell ⟨g, j, none⟩ u).heap[g']? = w.heap[g']? := by
 simp [World.setCell, Array.getElem?_modify, Ne.symm h]
theorem Keep.setCell (w : World) (g j : Nat) (u : Value) : Keep w [g] (w.setCell ⟨g, j, none⟩ u) :=
 ⟨rfl, rfl, rfl, by simp [World.setCell], fun g' _ hg => setCell_heap_other w g j g' u (by simpa using hg), Nat.le_refl _⟩
theorem RD.storeC {F : Nat → Prop} {d1 : D} {cs : List D} {ρ : Rho} {v : Value} {L1 : List Nat} (h : RD F w d1 ρ v L1) (hk : d1.kids = some cs) {j : Nat} {c : D} (hc : cs[j]? = some c) (hnd : L1.Nodup) (hnF : ∀ g ∈ L1, ¬ F g) :
  ∃ g o A M B, baseOf v = some ⟨g, o, none⟩ ∧ L1 = g :: (A ++ (M ++ B)) ∧ (∃ u, w.cell? ⟨g, o + j, none⟩ = some u ∧ RD F w c (ρ.at j) u M) ∧ w.frozen? ⟨g, o + j, none⟩ = false ∧
   ∀ (d' : D) (ρ' : Rho) (u' : Value) (L' : List Nat), RD F (w.setCell ⟨g, o + j, none⟩ u') d' ρ' u' L' →
    RD F (w.setCell ⟨g, o + j, none⟩ u') (d1.withKids (cs.set j d')) (ρ.upd j ρ') v (g :: (A ++ (L' ++ B))) := by
 cases d1 with
 | lit v => simp [D.kids] at hk
 | hole => simp [D.kids] at hk
 | fn g cs => simp [D.kids] at hk
 | sl own sz cs' =>
  cases own
  ·simp [D.kids] at hk
  ·simp only [D.kids, Option.some.injEq] at hk
   subst hk
   simp only [RD] at h
   obtain ⟨h0, us, L0, L2, rfl, h2, h3⟩ := h
   obtain ⟨u, A, M, B, hu, rfl, hM, hput⟩ := RDs.at cs' 0 ρ us L2 h3 j c hc
   rcases h2 with ⟨_, rfl, _⟩ | ⟨g, o, n0, cap, cur, e, h4, h5, h6, h7, h8, h9, h10, rfl⟩
   ·simp at hu
   refine ⟨g, o, A, M, B, by rw [h4]; rfl, rfl, ⟨u, cell_off h5 h10 hu, by simpa using hM⟩, by simp [World.frozen?, h5], fun d' ρ' u' L' hd' => ?_⟩
   ·have hgn : ∀ g', (g' ∈ A ∨ g' ∈ B) → g' ≠ g := by
     rintro g' hg' rfl
     simp only [List.cons_append, List.nil_append, List.nodup_cons, List.mem_append, not_or] at hnd
     rcases hg' with hg' | hg'
     ·exact hnd.1.1 hg'
     ·exact hnd.1.2.2 hg'
    have hsame : ∀ g', g' ≠ g → Same w (w.setCell ⟨g, o + j, none⟩ u') g' := fun g' hg' => setCell_heap_other w g (o + j) g' u' hg'
    have hput' := hput _ d' ρ' u' L' (fun g' hg' => hsame g' (by rintro rfl; exact hnF g' (by simp) hg')) (fun g' hg' => hsame g' (hgn g' hg')) hd'
    simp only [D.withKids, RD]
    refine ⟨h0, us.set j u', [g], A ++ (L' ++ B), rfl, ?_, by simpa using hput'⟩
    refine .inr ⟨g, o, n0, cap, _, e, h4, setCell_heap_same w g (o + j) u' cur e _ h5, by simpa using h6, h7, h8, by simpa using h9, ?_, rfl⟩
    rw [Array.toList_setIfInBounds, List.drop_set, if_neg (by omega), Nat.add_sub_cancel_left, List.take_set, h10]
 | pt own cs' =>
  cases own
  ·simp [D.kids] at hk
  ·simp only [D.kids, Option.some.injEq] at hk
   subst hk
   simp only [RD] at h
   obtain ⟨h0, g, us, L2, e, h4, rfl, h5, h3⟩ := h
   obtain ⟨u, A, M, B, hu, rfl, hM, hput⟩ := RDs.at cs' 0 ρ us L2 h3 j c hc
   refine ⟨g, 0, ?_⟩
   rw [Nat.zero_add]
   refine ⟨A, M, B, by rw [h4]; rfl, rfl, ?_, by simp [World.frozen?, h5], fun d' ρ' u' L' hd' => ?_⟩
   ·refine ⟨u, ?_, by simpa using hM⟩
    rw [cell_of_row w g j us.toArray e (0, 0) h5]
    simpa using hu
   ·have hgn : ∀ g', (g' ∈ A ∨ g' ∈ B) → g' ≠ g := by
     rintro g' hg' rfl
     simp only [List.nodup_cons, List.mem_append, not_or] at hnd
     rcases hg' with hg' | hg'
     ·exact hnd.1.1 hg'
     ·exact hnd.1.2.2 hg'
    have hsame : ∀ g', g' ≠ g → Same w (w.setCell ⟨g, j, none⟩ u') g' := fun g' hg' => setCell_heap_other w g j g' u' hg'
    have hput' := hput _ d' ρ' u' L' (fun g' hg' => hsame g' (by rintro rfl; exact hnF g' (by simp) hg')) (fun g' hg' => hsame g' (hgn g' hg')) hd'
    simp only [D.withKids, RD]
    refine ⟨h0, g, us.set j u', A ++ (L' ++ B), e, h4, rfl, ?_, by simpa using hput'⟩
    rw [setCell_heap_same w g j u' us.toArray e _ h5]
    simp
theorem RD.store {F : Nat → Prop} {d1 : D} {cs : List D} {ρ : Rho} {v : Value} {L1 : List Nat} (h : RD F w d1 ρ v L1) (hk : d1.kids = some cs) {j : Nat} {c : D} (hc : cs[j]? = some c) (hnd : L1.Nodup) (hnF : ∀ g ∈ L1, ¬ F g) :
  ∃ g o A M B, baseOf v = some ⟨g, o, none⟩ ∧ L1 = g :: (A ++ (M ++ B)) ∧ (∃ u, w.cell? ⟨g, o + j, none⟩ = some u) ∧ w.frozen? ⟨g, o + j, none⟩ = false ∧
   ∀ (d' : D) (ρ' : Rho) (u' : Value) (L' : List Nat), RD F (w.setCell ⟨g, o + j, none⟩ u') d' ρ' u' L' →
    RD F (w.setCell ⟨g, o + j, none⟩ u') (d1.withKids (cs.set j d')) (ρ.upd j ρ') v (g :: (A ++ (L' ++ B))) := by
 obtain ⟨g, o, A, M, B, h1, h2, ⟨u, h3, _⟩, h4⟩ := h.storeC hk hc hnd hnF
 exact ⟨g, o, A, M, B, h1, h2, ⟨u, h3⟩, h4⟩
theorem run_store_one {T : TypeId} [ht : OneTy P T] (w : World) (b : Addr) (u v : Value) (h : w.cell? b = some u) (hf : w.frozen? b = false) (hv : v.oneCell' = true) : (Instr.storeAt T (.pointer (some b)) v).run P w = .ok () (w.setCell b v) := by
 obtain ⟨d, i, t1, t2, t3, t4⟩ := ht.out
 have hc : v.cells = #[v] := by cases v <;> simp [Value.oneCell'] at hv <;> rfl
 simp [Instr.storeAt, Instr.sureAddr, storeVar, hc, sizeOf, typeInfo, t3, t4, storeCells, run_store P w _ v _ hv, add_zero', h, hf]
theorem RD.one {F : Nat → Prop} {d : D} {r : Rho} {v : Value} {M : List Nat} (h : RD F w d r v M) : v.oneCell' = true := by
 cases d with
 | lit u => simp only [RD] at h; rw [h.1]; exact h.2.1
 | hole => simp only [RD] at h; exact h.2.1
 | fn g cs =>
  simp only [RD] at h
  obtain ⟨_, us, e, _⟩ := h
  rw [e]; rfl
 | sl own sz cs =>
  cases own
  ·simp only [RD] at h
   obtain ⟨_, us, ⟨a, n, c, e, _⟩, _⟩ := h
   rw [e]; rfl
  ·simp only [RD] at h
   obtain ⟨_, us, L0, L1, _, h, _⟩ := h
   rcases h with ⟨e, _⟩ | ⟨g, o, n, cap, cur, e', e, _⟩ <;> rw [e] <;> rfl
 | pt own cs =>
  cases own
  ·simp only [RD] at h
   obtain ⟨_, b, us, e, _⟩ := h
   rw [e]; rfl
  ·simp only [RD] at h
   obtain ⟨_, g, us, L1, e', e, _⟩ := h
   rw [e]; rfl
theorem step_store_lit {t x id off : Nat} {path : List Nat} {xv : Operand} {u0 : Value} {T : TypeId} {dd d1 : D} {cs : List D} {c : D} {ty pos aft g} [OneTy P T] (h : st t = .ptr x id path off) (hx : st x = .own id dd) (hn' : dd.nav path = some d1) (hk : d1.kids = some cs) (hc : cs[off]? = some c)
  (hv : Lit st xv u0) (hu0 : u0.oneCell' = true) :
  Step P n ⟨none, .store T (.tmp t) xv, ty, pos, aft, g⟩ nid st (t :: x :: rdOf xv) [(x, .own id (dd.put path (d1.withKids (cs.set off (.lit u0)))))] := by
 intro X st' hs hX f a w hn hrep K Q hK
 obtain ⟨ρ, L, hr⟩ := hrep
 subst hn
 have ht := hr.slots t
 rw [(hs t (by simp)).trans h] at ht
 simp only [SR] at ht
 obtain ⟨_, b, hb, e0⟩ := ht
 have hxx := (hs x (by simp)).trans hx
 have ev := Lit.eval hr (hv.agree fun s hs' => hs s (by simp [hs']))
 obtain ⟨v1, A, L1, B, eL, h1, hset⟩ := hr.part hxx hn'
 have hnd : L1.Nodup := by have := hr.nodup x; rw [eL] at this; exact ((List.nodup_append.1 ((List.nodup_append.1 this).2.1)).1)
 have hsub : ∀ g' ∈ L1, g' ∈ L x := fun g' hg => by rw [eL]; simp [hg]
 obtain ⟨g0, o0, A1, M1, B1, hb1, rfl, ⟨uo, huo⟩, hfr, hput⟩ := h1.store hk hc hnd (fun g' hg => (hr.bound x g' (hsub g' hg)).2)
 have hv1 : v1 = ρ id path := by
  cases d1 with
  | lit v => simp [D.kids] at hk
  | hole => simp [D.kids] at hk
  | fn g cs => simp [D.kids] at hk
  | sl own sz cs' => cases own <;> simp [D.kids] at hk; simp only [RD] at h1; rw [h1.1, Rho.sub_nil]
  | pt own cs' => cases own <;> simp [D.kids] at hk; simp only [RD] at h1; rw [h1.1, Rho.sub_nil]
 rw [← hv1, hb1] at hb
 simp only [Option.some.injEq] at hb
 subst hb
 rw [addr_off] at e0
 have e1 : a.eval (.tmp t) = _ := e0
 have hnew := hput (.lit u0) (((ρ id).sub path).at off) u0 [] (by simp only [RD]; exact ⟨trivial, hu0, trivial⟩)
 rw [Rho.upd_at] at hnew
 have hg0 : g0 ∈ L x := hsub g0 (by simp)
 have hndx := hr.nodup x
 rw [eL] at hndx
 have hAB : ∀ g', g' ∈ A ∨ g' ∈ B → g' ≠ g0 := by
  rintro g' hg' rfl
  simp only [List.nodup_append, List.mem_append, List.mem_cons] at hndx
  rcases hg' with hg' | hg'
  ·exact hndx.2.2 g' hg' g' (.inl (.inl rfl)) rfl
  ·exact hndx.2.1.2.2 g' (.inl rfl) g' hg' rfl
 have hfin := hset (w.setCell ⟨g0, o0 + off, none⟩ u0) _ _ _ (fun g' hg' => setCell_heap_other w g0 (o0 + off) g' u0 (by rintro rfl; exact (hr.bound x g' hg0).2 hg')) (fun g' hg' => setCell_heap_other w g0 (o0 + off) g' u0 (hAB g' hg')) hnew
 rw [Rho.set_sub] at hfin
 refine wp_of_skip (w' := w.setCell ⟨g0, o0 + off, none⟩ u0) ?_ (hK _ _ ⟨ρ, fun s => if s = x then A ++ (g0 :: (A1 ++ ([] ++ B1)) ++ B) else L s, ?_⟩)
 ·simp only [execOp, e1, ev, Sem.run_bind, run_store_one w _ uo u0 huo hfr hu0, Result.andThen_ok, Sem.run_pure]
 ·refine hr.step (fun s => s = x) [g0] _ _ _ _ ρ _ rfl rfl (fun _ _ => rfl) (Keep.setCell w g0 (o0 + off) u0) (fun g' hg' => ⟨x, rfl, by simp only [List.mem_singleton] at hg'; rw [hg']; exact hg0⟩) (fun _ _ => rfl) (fun s hs' => ⟨put_other _ _ _ _ hs', rfl, by simp [hs']⟩) (fun s hs' => ?_) (fun s u hs' hu hne => absurd (hs'.trans hu.symm) hne) (fun _ h => .inl h) (fun s hs' i hi => ?_)
  ·subst hs'
   simp only [puts, put_same, if_true, SR]
   refine ⟨hfin, ?_, fun g' hg' => ?_⟩
   ·simp only [List.nil_append, List.nodup_append, List.mem_append, List.mem_cons, List.nodup_cons, List.cons_append] at hndx ⊢
    grind
   ·have : g' ∈ L s := by
     rw [eL]
     simp only [List.nil_append, List.mem_append, List.mem_cons, List.cons_append] at hg' ⊢
     grind
    exact ⟨by simp [World.setCell]; exact (hr.bound s g' this).1, .inl ⟨s, rfl, this⟩⟩
  ·subst hs'
   simp only [puts, put_same, AV.ids, List.mem_singleton] at hi
   subst hi
   exact .inl (hr.ids s i (by rw [hxx]; simp [AV.ids]))
end
end Go.Pv
