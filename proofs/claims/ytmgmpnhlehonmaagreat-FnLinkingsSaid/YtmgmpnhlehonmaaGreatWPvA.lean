/- What a frame's slots hold, as data trees and names of their parts, and how one operation changes that. No condition. -/
import Derived.WalkKit
set_option linter.unusedVariables false
set_option linter.unusedSimpArgs false
namespace Go.Pv
theorem x5 {A : Prop} (h : A := by exact .own rfl) : A := h
theorem x4 {A : Prop} (h : A := by simp [hx]) : A := h
theorem x3 {A : Prop} (h : A := by simp only [List.length_cons]; omega) : A := h
theorem x2 {A : Prop} (h : A := by rcases hg with hg | hg <;> simp [hg]) : A := h
theorem w9 {A : Prop} (h : A := by simpa [AV.ids] using hi') : A := h
theorem w8 {A : Prop} (h : A := by simpa [AV.ids] using hids) : A := h
theorem w7 {A : Prop} (h : A := by simp only [SR]) : A := h
theorem w6 {A : Prop} (h : A := by first | exact .no | exact .at_ rfl j7) : A := h
theorem w5 {A : Prop} (h : A := by first | exact Nat.le_of_ble_eq_true rfl | (simp; done) | (simp; omega)) : A := h
theorem w4 {A : Prop} (h : A := by first | exact .ptr rfl j3 | exact .sptr | exact .c) : A := h
theorem v8 {A : Prop} (h : A := by first | exact rfl | exact Zsa rfl j0) : A := h
theorem v7 {A : Prop} (h : A := by exact rfl) : A := h
theorem v6 {A : Prop} (h : A := by simpa using h) : A := h
theorem u9 {A : Prop} (h : A := by first | exact rfl | exact Zmz j0 | exact Zjq j0 | exact Zgt j0 | exact Zxm j0) : A := h
theorem u7 {A : Prop} (h : A := by first | exact .raw | exact .nil | exact .cons .nil | exact .cons (.cons .nil) | exact .cons (.cons (.cons .nil)) | exact .cons (.cons (.cons (.cons .nil)))) : A := h
theorem u6 {A : Prop} (h : A := by first | exact .ptr rfl | exact .sptr rfl | exact .root rfl) : A := h
theorem u5 {A : Prop} (h : A := by simp [hg]) : A := h
theorem u4 {A : Prop} (h : A := by simp; omega) : A := h
theorem u3 {A : Prop} (h : A := by simp [AV.ids]) : A := h
theorem q9 {A : Prop} (h : A := by simp [hs']) : A := h
theorem p9 {A : Prop} (h : A := by simp only; omega) : A := h
theorem p8 {A : Prop} (h : A := by first | exact .c | exact .part rfl rfl) : A := h
theorem p7 {A : Prop} (h : A := by simp only [List.reverse_cons, List.reverse_nil, List.nil_append, List.cons_append, List.map_cons, List.map_nil, List.append_nil, fpE, rdE, wkE, Z5, List.append_eq, List.singleton_append]; decide) : A := h
theorem k9 {A : Prop} (h : A := by first | exact U3.cut rfl rfl rfl | exact .als rfl rfl v8 | exact .root rfl | exact .sh rfl | exact .sub rfl rfl rfl | exact .nil) : A := h
theorem j9 {A : Prop} (h : A := by first | exact rfl | exact Zb (by first | omega | assumption) | exact Zxh (by simp [*]) | exact Zq (by first | assumption | (simp [*]; done)) | exact V1 (by first | assumption | (simp [*]; done)) | exact Zz6 (by simp [*])) : A := h
theorem j8 {A : Prop} (h : A := by first | exact .c | exact .raw j3 | exact .als rfl rfl j3) : A := h
theorem j7 {A : Prop} (h : A := by first | with_reducible exact (Int.natCast_add_one _).symm | with_reducible exact Zxo _ | exact rfl | exact (Int.toNat_of_nonneg j2).symm) : A := h
theorem j6 {A : Prop} (h : A := by first | exact ⟨rfl, rfl⟩ | (simp only [List.all_cons, List.all_nil, V.solid, D.solid, D.solids, V7, Uo, H1, Bool.and_self, Bool.and_true, and_self]; done) | simp [V.solid, D.solid, D.solids, Zeh, V7, Uo, H1]) : A := h
theorem j5 {A : Prop} (h : A := by first | exact .nil | exact .cons .nil | exact .cons (.cons .nil) | exact .cons (.cons (.cons .nil)) | exact .cons (.cons (.cons (.cons .nil))) | exact .cons (.cons (.cons (.cons (.cons .nil))))) : A := h
theorem j4 {A : Prop} (h : A := by first | exact .lit rfl | exact .nil | exact .own rfl | exact .als rfl rfl | exact .ptr rfl rfl | exact Zm8 rfl rfl j0 | exact .part rfl rfl rfl | exact .c rfl) : A := h
theorem j3 {A : Prop} (h : A := by first | rfl | exact eI_ _ | exact eB_ _ | exact eL_ _ | exact eN_ _ | exact eM_ _ | (simp [D.erases, D.erase, eL_, eI_, eN_, eM_]; done)) : A := h
theorem j2 {A : Prop} (h : A := by omega) : A := h
theorem j1 {A : Prop} (h : A := by first | exact .one j4 | exact .agg rfl rfl | exact .parts rfl (.cons p8 .nil) | exact .parts rfl (.cons p8 (.cons p8 .nil)) | exact .parts rfl (.cons p8 (.cons p8 (.cons p8 .nil))) | exact .parts rfl (.cons p8 (.cons p8 (.cons p8 (.cons p8 .nil))))) : A := h
theorem j0 {A : Prop} (h : A := by first | omega | (simp only [List.length_map, List.length_set, List.length_take, List.length_drop, List.length_reverse, List.length_replicate, List.length_append, List.length_cons, List.length_nil]; omega)) : A := h
open Go.RowKit
inductive D where
 | lit (v : Value)
 | sl (own : Bool) (sz : Nat) (cs : List D)
 | pt (own : Bool) (cs : List D)
 | hole
 | fn (g : FuncId) (cs : List D)
mutual
def D.free : D -> Bool
 | .lit _ => true
 | .sl own _ cs => !own && D.frees cs
 | .pt own cs => !own && D.frees cs
 | .fn _ cs => D.frees cs
 | .hole => false
def D.frees : List D -> Bool
 | [] => true
 | d :: ds => d.free && D.frees ds
end
mutual
def D.erase : D -> D
 | .lit v => .lit v
 | .sl _ sz cs => .sl false sz (D.erases cs)
 | .pt _ cs => .pt false (D.erases cs)
 | .fn g cs => .fn g (D.erases cs)
 | .hole => .hole
def D.erases : List D -> List D
 | [] => []
 | d :: ds => d.erase :: D.erases ds
end
theorem D.erases_eq (l : List D) : D.erases l = l.map D.erase := by
 induction l with
 | nil => rfl
 | cons d ds ih => simp [D.erases, ih]
def Vh (w w' : World) (g : Nat) : Prop := w'.heap[g]? = w.heap[g]?
abbrev Rho := List Nat -> Value
def Rho.at (ρ : Rho) (k : Nat) : Rho := fun π => ρ (k :: π)
def Rho.upd (ρ : Rho) (k : Nat) (ρ' : Rho) : Rho := fun π => match π with
 | [] => ρ []
 | j :: π' => if j = k then ρ' π' else ρ (j :: π')
def Row (w : World) (v : Value) (sz : Nat) (us : List Value) (L : List Nat) : Prop :=
 (v = .slice none 0 0 /\ us = [] /\ L = []) \/
 ∃ g o n cap cur e, v = .slice (some ⟨g, o, none⟩) n cap /\ w.heap[g]? = some (.cells cur e (0, 0)) /\ n * sz = us.length /\ n <= cap /\ cap <= maxLen /\
  o + cap * sz <= cur.size /\ (cur.toList.drop o).take (n * sz) = us /\ L = [g]
theorem Row.mk0 {w : World} {v : Value} {sz : Nat} {us : List Value} {L : List Nat} (h : ∃ g n cap cur e, v = .slice (some ⟨g, 0, none⟩) n cap /\ w.heap[g]? = some (.cells cur e (0, 0)) /\ n * sz = us.length /\ n <= cap /\ cap <= maxLen /\
  cur.size = cap * sz /\ cur.toList.take (n * sz) = us /\ L = [g]) : Row w v sz us L := by
 obtain ⟨g, n, cap, cur, e, h1, h2, h3, h4, h5, h6, h7, h8⟩ := h
 exact .inr ⟨g, 0, n, cap, cur, e, h1, h2, h3, h4, h5, by rw [Nat.zero_add]; exact Nat.le_of_eq h6.symm, h7, h8⟩
theorem Vn (g o j : Nat) : (⟨g, o, none⟩ : Addr).add j = ⟨g, o + j, none⟩ := by
 unfold Addr.add
 split <;> simp_all
theorem Ji {w : World} {g o m : Nat} {cur : Array Value} {e : TypeId} {us : List Value} (h2 : w.heap[g]? = some (.cells cur e (0, 0))) (h7 : (cur.toList.drop o).take m = us) {j : Nat} {u : Value} (hu : us[j]? = some u) : w.cell? ⟨g, o + j, none⟩ = some u := by
 rw [cell_of_row w g (o + j) cur e (0, 0) h2]
 rw [<- h7, List.getElem?_take] at hu
 split at hu
 ·rw [List.getElem?_drop] at hu
  simpa using hu
 ·cases hu
def Ui (F : Nat -> Prop) (w : World) (v : Value) (sz : Nat) (us : List Value) : Prop :=
 ∃ a n cap, v = .slice a n cap /\ n * sz = us.length /\ n <= cap /\ cap <= maxLen /\
  (us ≠ [] -> ∃ b, a = some b /\ F b.block /\ ∀ (j : Nat) (u : Value), us[j]? = some u -> w.cell? (b.add j) = some u)
mutual
def RD (F : Nat -> Prop) (w : World) : D -> Rho -> Value -> List Nat -> Prop
 | .lit u, _, v, L => v = u /\ u.oneCell' = true /\ L = []
 | .hole, ρ, v, L => v = ρ [] /\ v.oneCell' = true /\ L = []
 | .sl true sz cs, ρ, v, L => v = ρ [] /\ ∃ us L0 L1, L = L0 ++ L1 /\ Row w v sz us L0 /\ RDs F w cs 0 ρ us L1
 | .sl false sz cs, ρ, v, L => L = [] /\ ∃ us, Ui F w v sz us /\ RDs F w cs 0 ρ us []
 | .pt true cs, ρ, v, L => v = ρ [] /\ ∃ g us L1 e, v = .pointer (some ⟨g, 0, none⟩) /\ L = g :: L1 /\ w.heap[g]? = some (.cells us.toArray e (0, 0)) /\ RDs F w cs 0 ρ us L1
 | .pt false cs, ρ, v, L => L = [] /\ ∃ b us, v = .pointer (some b) /\ F b.block /\ (∀ (j : Nat) (u : Value), us[j]? = some u -> w.cell? (b.add j) = some u) /\ RDs F w cs 0 ρ us []
 | .fn g cs, ρ, v, L => L = [] /\ ∃ us, v = .func (.func g) #[] us.toArray /\ RDs F w cs 0 ρ us []
def RDs (F : Nat -> Prop) (w : World) : List D -> Nat -> Rho -> List Value -> List Nat -> Prop
 | [], _, _, us, L => us = [] /\ L = []
 | d :: ds, k, ρ, us, L => ∃ u us' L1 L2, us = u :: us' /\ L = L1 ++ L2 /\ RD F w d (ρ.at k) u L1 /\ RDs F w ds (k + 1) ρ us' L2
end
theorem RDs.length {F : Nat -> Prop} {w : World} : ∀ {cs : List D} {k : Nat} {ρ : Rho} {us : List Value} {L : List Nat}, RDs F w cs k ρ us L -> us.length = cs.length
 | [], _, _, _, _, h => by simp only [RDs] at h; simp [h.1]
 | d :: ds, k, ρ, us, L, h => by
  simp only [RDs] at h
  obtain ⟨u, us', L1, L2, rfl, _, _, h2⟩ := h
  simp [RDs.length h2]
theorem Row.same {w w' : World} {v : Value} {sz : Nat} {us : List Value} {L : List Nat} (h : Row w v sz us L) (hs : ∀ g ∈ L, Vh w w' g) : Row w' v sz us L := by
 rcases h with h | ⟨g, o, n, cap, cur, e, h1, h2, h3, h4, h5, h6, h7, rfl⟩
 ·exact .inl h
 ·exact .inr ⟨g, o, n, cap, cur, e, h1, (hs g (by simp)).trans h2, h3, h4, h5, h6, h7, rfl⟩
theorem Zcz {w w' : World} {a : Addr} (h : Vh w w' a.block) : w'.cell? a = w.cell? a := by
 unfold Vh at h; simp [World.cell?, h]
theorem Q4 (b : Addr) (j : Nat) : (b.add j).block = b.block := by unfold Addr.add; split <;> rfl
theorem Ui.same {F F' : Nat -> Prop} {w w' : World} {v : Value} {sz : Nat} {us : List Value} (h : Ui F w v sz us) (hF : ∀ g, F g -> F' g) (hs : ∀ g, F g -> Vh w w' g) : Ui F' w' v sz us := by
 obtain ⟨a, n, cap, h1, h2, h3, h4, h5⟩ := h
 refine ⟨a, n, cap, h1, h2, h3, h4, fun hne => ?_⟩
 obtain ⟨b, rfl, hb, hc⟩ := h5 hne
 exact ⟨b, rfl, hF _ hb, fun j u hu => (Zcz (by rw [Q4]; exact hs _ hb)).trans (hc j u hu)⟩
mutual
theorem RD.same {F F' : Nat -> Prop} {w w' : World} (hF : ∀ g, F g -> F' g) (hs : ∀ g, F g -> Vh w w' g) :
  ∀ (d : D) (ρ : Rho) (v : Value) (L : List Nat), RD F w d ρ v L -> (∀ g ∈ L, Vh w w' g) -> RD F' w' d ρ v L
 | .lit u, _, _, _, h, _ => by simpa only [RD] using h
 | .hole, _, _, _, h, _ => by simpa only [RD] using h
 | .sl true sz cs, ρ, v, L, h, hL => by
  simp only [RD] at h ⊢
  obtain ⟨h0, us, L0, L1, rfl, h1, h2⟩ := h
  exact ⟨h0, us, L0, L1, rfl, h1.same (fun g hg => hL g u5), RDs.same hF hs cs 0 ρ us L1 h2 (fun g hg => hL g u5)⟩
 | .sl false sz cs, ρ, v, L, h, _ => by
  simp only [RD] at h ⊢
  obtain ⟨h0, us, h1, h2⟩ := h
  exact ⟨h0, us, h1.same hF hs, RDs.same hF hs cs 0 ρ us [] h2 (fun g hg => by simp at hg)⟩
 | .pt true cs, ρ, v, L, h, hL => by
  simp only [RD] at h ⊢
  obtain ⟨h0, g, us, L1, e, h1, rfl, h2, h3⟩ := h
  exact ⟨h0, g, us, L1, e, h1, rfl, (hL g (by simp)).trans h2, RDs.same hF hs cs 0 ρ us L1 h3 (fun g hg => hL g u5)⟩
 | .pt false cs, ρ, v, L, h, _ => by
  simp only [RD] at h ⊢
  obtain ⟨h0, b, us, h1, h2, h3, h4⟩ := h
  exact ⟨h0, b, us, h1, hF _ h2, fun j u hu => (Zcz (by rw [Q4]; exact hs _ h2)).trans (h3 j u hu), RDs.same hF hs cs 0 ρ us [] h4 (fun g hg => by simp at hg)⟩
 | .fn g cs, ρ, v, L, h, _ => by
  simp only [RD] at h ⊢
  obtain ⟨h0, us, h1, h2⟩ := h
  exact ⟨h0, us, h1, RDs.same hF hs cs 0 ρ us [] h2 (fun g hg => by simp at hg)⟩
theorem RDs.same {F F' : Nat -> Prop} {w w' : World} (hF : ∀ g, F g -> F' g) (hs : ∀ g, F g -> Vh w w' g) :
  ∀ (ds : List D) (k : Nat) (ρ : Rho) (us : List Value) (L : List Nat), RDs F w ds k ρ us L -> (∀ g ∈ L, Vh w w' g) -> RDs F' w' ds k ρ us L
 | [], _, _, _, _, h, _ => by simpa only [RDs] using h
 | d :: ds, k, ρ, us, L, h, hL => by
  simp only [RDs] at h ⊢
  obtain ⟨u, us', L1, L2, rfl, rfl, h1, h2⟩ := h
  exact ⟨u, us', L1, L2, rfl, rfl, RD.same hF hs d _ u L1 h1 (fun g hg => hL g u5), RDs.same hF hs ds (k + 1) ρ us' L2 h2 (fun g hg => hL g u5)⟩
end
mutual
theorem RD.erase {F F' : Nat -> Prop} {w : World} (hF : ∀ g, F g -> F' g) :
  ∀ (d : D) (ρ : Rho) (v : Value) (L : List Nat), RD F w d ρ v L -> (∀ g ∈ L, F' g) -> RD F' w d.erase ρ v []
 | .lit u, _, _, _, h, _ => by simp only [RD, D.erase] at h ⊢; exact ⟨h.1, h.2.1, trivial⟩
 | .hole, _, _, _, h, _ => by simp only [RD, D.erase] at h ⊢; exact ⟨h.1, h.2.1, trivial⟩
 | .sl true sz cs, ρ, v, L, h, hL => by
  simp only [RD, D.erase] at h ⊢
  obtain ⟨h0, us, L0, L1, rfl, h1, h2⟩ := h
  refine ⟨trivial, us, ?_, RDs.erase hF cs 0 ρ us L1 h2 (fun g hg => hL g u5)⟩
  rcases h1 with ⟨rfl, rfl, rfl⟩ | ⟨g, o, n, cap, cur, e, h1, h2, h3, h4, h5, h6, h7, rfl⟩
  ·exact ⟨none, 0, 0, rfl, by simp, Nat.le_refl _, Nat.zero_le _, fun h => absurd rfl h⟩
  ·refine ⟨some ⟨g, o, none⟩, n, cap, h1, h3, h4, h5, fun _ => ⟨_, rfl, hL g (by simp), fun j u hu => ?_⟩⟩
   rw [Vn]
   exact Ji h2 h7 hu
 | .sl false sz cs, ρ, v, L, h, _ => by
  simp only [RD, D.erase] at h ⊢
  obtain ⟨h0, us, h1, h2⟩ := h
  exact ⟨trivial, us, h1.same hF (fun _ _ => rfl), RDs.erase hF cs 0 ρ us [] h2 (fun g hg => by simp at hg)⟩
 | .pt true cs, ρ, v, L, h, hL => by
  simp only [RD, D.erase] at h ⊢
  obtain ⟨h0, g, us, L1, e, h1, rfl, h2, h3⟩ := h
  refine ⟨trivial, ⟨g, 0, none⟩, us, h1, hL g (by simp), fun j u hu => ?_, RDs.erase hF cs 0 ρ us L1 h3 (fun g hg => hL g u5)⟩
  have hadd : (⟨g, 0, none⟩ : Addr).add j = ⟨g, j, none⟩ := by unfold Addr.add; split <;> simp_all
  rw [hadd, cell_of_row w g j us.toArray e (0, 0) h2]
  simpa using hu
 | .pt false cs, ρ, v, L, h, _ => by
  simp only [RD, D.erase] at h ⊢
  obtain ⟨h0, b, us, h1, h2, h3, h4⟩ := h
  exact ⟨trivial, b, us, h1, hF _ h2, h3, RDs.erase hF cs 0 ρ us [] h4 (fun g hg => by simp at hg)⟩
 | .fn g cs, ρ, v, L, h, _ => by
  simp only [RD, D.erase] at h ⊢
  obtain ⟨h0, us, h1, h2⟩ := h
  exact ⟨trivial, us, h1, RDs.erase hF cs 0 ρ us [] h2 (fun g hg => by simp at hg)⟩
theorem RDs.erase {F F' : Nat -> Prop} {w : World} (hF : ∀ g, F g -> F' g) :
  ∀ (ds : List D) (k : Nat) (ρ : Rho) (us : List Value) (L : List Nat), RDs F w ds k ρ us L -> (∀ g ∈ L, F' g) -> RDs F' w (D.erases ds) k ρ us []
 | [], _, _, _, _, h, _ => by simp only [RDs, D.erases] at h ⊢; exact ⟨h.1, trivial⟩
 | d :: ds, k, ρ, us, L, h, hL => by
  simp only [RDs, D.erases] at h ⊢
  obtain ⟨u, us', L1, L2, rfl, rfl, h1, h2⟩ := h
  exact ⟨u, us', [], [], rfl, rfl, RD.erase hF d _ u L1 h1 (fun g hg => hL g u5), RDs.erase hF ds (k + 1) ρ us' L2 h2 (fun g hg => hL g u5)⟩
end
mutual
def D.solid : D -> Bool
 | .lit _ | .hole => true
 | .sl own _ cs | .pt own cs => own && D.solids cs
 | .fn _ cs => D.solids cs
def D.solids : List D -> Bool
 | [] => true
 | d :: ds => d.solid && D.solids ds
end
mutual
theorem RD.solid {F F' : Nat -> Prop} {w : World} : ∀ (d : D) (ρ : Rho) (v : Value) (L : List Nat), RD F w d ρ v L -> d.solid = true -> RD F' w d ρ v L
 | .lit u, _, _, _, h, _ => by simpa only [RD] using h
 | .hole, _, _, _, h, _ => by simpa only [RD] using h
 | .sl true sz cs, ρ, v, L, h, hs => by
  simp only [D.solid, Bool.true_and] at hs
  simp only [RD] at h ⊢
  obtain ⟨h0, us, L0, L1, rfl, h1, h2⟩ := h
  exact ⟨h0, us, L0, L1, rfl, h1, RDs.solid cs 0 ρ us L1 h2 hs⟩
 | .sl false sz cs, ρ, v, L, h, hs => by simp [D.solid] at hs
 | .pt true cs, ρ, v, L, h, hs => by
  simp only [D.solid, Bool.true_and] at hs
  simp only [RD] at h ⊢
  obtain ⟨h0, g, us, L1, e, h1, rfl, h2, h3⟩ := h
  exact ⟨h0, g, us, L1, e, h1, rfl, h2, RDs.solid cs 0 ρ us L1 h3 hs⟩
 | .pt false cs, ρ, v, L, h, hs => by simp [D.solid] at hs
 | .fn g cs, ρ, v, L, h, hs => by
  simp only [D.solid] at hs
  simp only [RD] at h ⊢
  obtain ⟨h0, us, h1, h2⟩ := h
  exact ⟨h0, us, h1, RDs.solid cs 0 ρ us [] h2 hs⟩
theorem RDs.solid {F F' : Nat -> Prop} {w : World} : ∀ (ds : List D) (k : Nat) (ρ : Rho) (us : List Value) (L : List Nat), RDs F w ds k ρ us L -> D.solids ds = true -> RDs F' w ds k ρ us L
 | [], _, _, _, _, h, _ => by simpa only [RDs] using h
 | d :: ds, k, ρ, us, L, h, hs => by
  simp only [D.solids, Bool.and_eq_true] at hs
  simp only [RDs] at h ⊢
  obtain ⟨u, us', L1, L2, rfl, rfl, h1, h2⟩ := h
  exact ⟨u, us', L1, L2, rfl, rfl, RD.solid d _ u L1 h1 hs.1, RDs.solid ds (k + 1) ρ us' L2 h2 hs.2⟩
end
theorem Rho.at_upd_same (ρ ρ' : Rho) (k : Nat) : (ρ.upd k ρ').at k = ρ' := by funext π; simp [Rho.at, Rho.upd]
theorem Rho.at_upd_other (ρ ρ' : Rho) (k j : Nat) (h : j ≠ k) : (ρ.upd k ρ').at j = ρ.at j := by funext π; simp [Rho.at, Rho.upd, h]
mutual
theorem RD.rho {F : Nat -> Prop} {w : World} : ∀ (d : D) (ρ ρ' : Rho) (v : Value) (L : List Nat), RD F w d ρ v L -> (∀ π, ρ' π = ρ π) -> RD F w d ρ' v L
 | d, ρ, ρ', v, L, h, e => by have : ρ' = ρ := funext e; rw [this]; exact h
theorem RDs.rho {F : Nat -> Prop} {w : World} : ∀ (ds : List D) (k : Nat) (ρ ρ' : Rho) (us : List Value) (L : List Nat), RDs F w ds k ρ us L -> (∀ j, k <= j -> ρ'.at j = ρ.at j) -> RDs F w ds k ρ' us L
 | [], _, _, _, _, _, h, _ => by simpa only [RDs] using h
 | d :: ds, k, ρ, ρ', us, L, h, e => by
  simp only [RDs] at h ⊢
  obtain ⟨u, us', L1, L2, rfl, rfl, h1, h2⟩ := h
  exact ⟨u, us', L1, L2, rfl, rfl, by rw [e k (Nat.le_refl _)]; exact h1, RDs.rho ds (k + 1) ρ ρ' us' L2 h2 (fun j hj => e j j2)⟩
end
theorem RDs.at {F : Nat -> Prop} {w : World} : ∀ (cs : List D) (k : Nat) (ρ : Rho) (us : List Value) (L : List Nat), RDs F w cs k ρ us L -> ∀ (j : Nat) (d : D), cs[j]? = some d ->
  ∃ u A L1 B, us[j]? = some u /\ L = A ++ (L1 ++ B) /\ RD F w d (ρ.at (k + j)) u L1 /\
   ∀ (w' : World) (d' : D) (ρ' : Rho) (u' : Value) (L1' : List Nat), (∀ g, F g -> Vh w w' g) -> (∀ g, g ∈ A \/ g ∈ B -> Vh w w' g) -> RD F w' d' ρ' u' L1' ->
    RDs F w' (cs.set j d') k (ρ.upd (k + j) ρ') (us.set j u') (A ++ (L1' ++ B))
 | [], _, _, _, _, _, j, d, hd => by simp at hd
 | c :: cs, k, ρ, us, L, h, 0, d, hd => by
  simp only [RDs] at h
  obtain ⟨u, us', L1, L2, rfl, rfl, h1, h2⟩ := h
  simp only [List.getElem?_cons_zero, Option.some.injEq] at hd
  subst hd
  refine ⟨u, [], L1, L2, rfl, rfl, h1, fun w' d' ρ' u' L1' hF hAB hd' => ?_⟩
  simp only [List.set_cons_zero, RDs, List.nil_append]
  refine ⟨u', us', L1', L2, rfl, rfl, by rw [Nat.add_zero, Rho.at_upd_same]; exact hd', ?_⟩
  exact RDs.rho cs (k + 1) ρ _ us' L2 (RDs.same (fun _ h => h) hF cs (k + 1) ρ us' L2 h2 (fun g hg => hAB g (.inr hg))) (fun j hj => Rho.at_upd_other _ _ _ _ j2)
 | c :: cs, k, ρ, us, L, h, j + 1, d, hd => by
  simp only [RDs] at h
  obtain ⟨u, us', L1, L2, rfl, rfl, h1, h2⟩ := h
  simp only [List.getElem?_cons_succ] at hd
  obtain ⟨v, A, M, B, hv, rfl, hM, hput⟩ := RDs.at cs (k + 1) ρ us' L2 h2 j d hd
  have ek : k + 1 + j = k + (j + 1) := by omega
  rw [ek] at hM
  refine ⟨v, L1 ++ A, M, B, by simpa using hv, by simp, hM, fun w' d' ρ' u' L1' hF hAB hd' => ?_⟩
  simp only [List.set_cons_succ, RDs]
  refine ⟨u, us'.set j u', L1, A ++ (L1' ++ B), rfl, by simp, ?_, ?_⟩
  ·rw [Rho.at_upd_other _ _ _ _ j2]
   exact RD.same (fun _ h => h) hF c _ u L1 h1 (fun g hg => hAB g (.inl u5))
  ·have := hput w' d' ρ' u' L1' hF (fun g hg => hAB g x2) hd'
   rw [ek] at this
   exact this
def D.kids : D -> Option (List D)
 | .sl true _ cs => some cs
 | .pt true cs => some cs
 | _ => none
def D.withKids : D -> List D -> D
 | .sl true sz _, cs => .sl true sz cs
 | .pt true _, cs => .pt true cs
 | d, _ => d
def D.nav : D -> List Nat -> Option D
 | d, [] => some d
 | d, k :: π => match d.kids with
  | some cs => match cs[k]? with
   | some c => c.nav π
   | none => none
  | none => none
def D.put : D -> List Nat -> D -> D
 | _, [], d' => d'
 | d, k :: π, d' => match d.kids with
  | some cs => match cs[k]? with
   | some c => d.withKids (cs.set k (c.put π d'))
   | none => d
  | none => d
def Rho.sub (ρ : Rho) (π : List Nat) : Rho := fun q => ρ (π ++ q)
def Rho.set : Rho -> List Nat -> Rho -> Rho
 | _, [], ρ' => ρ'
 | ρ, k :: π, ρ' => ρ.upd k ((ρ.at k).set π ρ')
theorem Rho.upd_at (ρ : Rho) (k : Nat) : ρ.upd k (ρ.at k) = ρ := by
 funext π; cases π with
 | nil => rfl
 | cons j π => simp only [Rho.upd, Rho.at]; split <;> simp_all
theorem RD.focus {F : Nat -> Prop} {w : World} : ∀ (π : List Nat) (d : D) (ρ : Rho) (v : Value) (L : List Nat), RD F w d ρ v L -> ∀ d1, d.nav π = some d1 ->
  ∃ v1 A L1 B, L = A ++ (L1 ++ B) /\ RD F w d1 (ρ.sub π) v1 L1 /\
   ∀ (w' : World) (d1' : D) (ρ1' : Rho) (L1' : List Nat), (∀ g, F g -> Vh w w' g) -> (∀ g, g ∈ A \/ g ∈ B -> Vh w w' g) -> RD F w' d1' ρ1' v1 L1' ->
    RD F w' (d.put π d1') (ρ.set π ρ1') v (A ++ (L1' ++ B))
 | [], d, ρ, v, L, h, d1, hd => by
  simp only [D.nav, Option.some.injEq] at hd
  subst hd
  exact ⟨v, [], L, [], by simp, h, fun w' d1' ρ1' L1' _ _ hd' => by simpa [D.put, Rho.set] using hd'⟩
 | k :: π, .sl true sz cs, ρ, v, L, h, d1, hd => by
  simp only [D.nav, D.kids] at hd
  cases hc : cs[k]? with
  | none => simp [hc] at hd
  | some c =>
   simp only [hc] at hd
   simp only [RD] at h
   obtain ⟨h0, us, L0, L1, rfl, h1, h2⟩ := h
   obtain ⟨u, A, M, B, hu, rfl, hM, hput⟩ := RDs.at cs 0 ρ us L1 h2 k c hc
   rw [Nat.zero_add] at hM
   obtain ⟨v1, A', M', B', rfl, hM', hput'⟩ := RD.focus π c (ρ.at k) u M hM d1 hd
   refine ⟨v1, L0 ++ (A ++ A'), M', B' ++ B, by simp, hM', fun w' d1' ρ1' L1' hF hAB hd' => ?_⟩
   have e := hput' w' d1' ρ1' L1' hF (fun g hg => hAB g x2) hd'
   have f := hput w' _ _ u _ hF (fun g hg => hAB g x2) e
   have hus : us.set k u = us := by
    obtain ⟨hk, rfl⟩ := List.getElem?_eq_some_iff.1 hu
    simp
   rw [hus, Nat.zero_add] at f
   simp only [D.put, D.kids, hc, D.withKids, RD, Rho.set]
   exact ⟨h0, us, L0, A ++ ((A' ++ (L1' ++ B')) ++ B), by simp, h1.same (fun g hg => hAB g u5), f⟩
 | k :: π, .pt true cs, ρ, v, L, h, d1, hd => by
  simp only [D.nav, D.kids] at hd
  cases hc : cs[k]? with
  | none => simp [hc] at hd
  | some c =>
   simp only [hc] at hd
   simp only [RD] at h
   obtain ⟨h0, g, us, L1, e, h1, rfl, h2, h3⟩ := h
   obtain ⟨u, A, M, B, hu, rfl, hM, hput⟩ := RDs.at cs 0 ρ us L1 h3 k c hc
   rw [Nat.zero_add] at hM
   obtain ⟨v1, A', M', B', rfl, hM', hput'⟩ := RD.focus π c (ρ.at k) u M hM d1 hd
   refine ⟨v1, g :: (A ++ A'), M', B' ++ B, by simp, hM', fun w' d1' ρ1' L1' hF hAB hd' => ?_⟩
   have e1 := hput' w' d1' ρ1' L1' hF (fun g hg => hAB g x2) hd'
   have f := hput w' _ _ u _ hF (fun g hg => hAB g x2) e1
   have hus : us.set k u = us := by
    obtain ⟨hk, rfl⟩ := List.getElem?_eq_some_iff.1 hu
    simp
   rw [hus, Nat.zero_add] at f
   simp only [D.put, D.kids, hc, D.withKids, RD, Rho.set]
   exact ⟨h0, g, us, A ++ ((A' ++ (L1' ++ B')) ++ B), e, h1, by simp, (hAB g (by simp)).trans h2, f⟩
 | k :: π, .lit u, _, _, _, _, d1, hd => by simp [D.nav, D.kids] at hd
 | k :: π, .hole, _, _, _, _, d1, hd => by simp [D.nav, D.kids] at hd
 | k :: π, .sl false sz cs, _, _, _, _, d1, hd => by simp [D.nav, D.kids] at hd
 | k :: π, .fn _ cs, _, _, _, _, d1, hd => by simp [D.nav, D.kids] at hd
 | k :: π, .pt false cs, _, _, _, _, d1, hd => by simp [D.nav, D.kids] at hd
end Go.Pv
namespace Go.Pv
open Go.RowKit
inductive AV where
 | c (d : D)
 | own (id : Nat) (d : D)
 | raw (d : D)
 | als (x id : Nat) (path : List Nat)
 | sub (x id : Nat) (path : List Nat) (sz lo n : Nat)
 | ptr (x id : Nat) (path : List Nat) (off : Nat)
 | sptr (cs : List D) (off : Nat)
 | agg (l : List AV)
 | tup (l : List AV)
 | clo (g : FuncId) (l : List AV)
 | tupn (id : Nat) (l : List AV)
 | tupr (x id : Nat) (l : List AV)
 | dead
mutual
def AV.ids : AV -> List Nat
 | .own i _ | .als _ i _ | .sub _ i _ _ _ _ | .ptr _ i _ _ => [i]
 | .agg l | .tup l | .clo _ l => AV.idss l
 | .tupn i l | .tupr _ i l => i :: AV.idss l
 | _ => []
def AV.idss : List AV -> List Nat
 | [] => []
 | a :: l => a.ids ++ AV.idss l
end
def Js : Value -> Option Addr
 | .slice a _ _ => a
 | .pointer a => a
 | _ => none
mutual
def SR (F : Nat -> Prop) (w : World) (ρ : Nat -> Rho) : AV -> Value -> List Nat -> Prop
 | .c d, v, L => L = [] /\ ∃ r, RD F w d r v []
 | .own id d, v, L => RD F w d (ρ id) v L
 | .raw d, v, L => ∃ r, RD F w d r v L
 | .als _ id path, v, L => L = [] /\ v = ρ id path
 | .sub _ id path sz lo n, v, L => L = [] /\ ∃ a n0 c0 a1 c1, ρ id path = .slice a n0 c0 /\ v = .slice a1 n c1 /\ lo + n <= n0 /\ n <= c1 /\ c1 <= maxLen /\ (n ≠ 0 -> a.isSome = true /\ a1 = a.map (·.add (lo * sz)))
 | .ptr _ id path off, v, L => L = [] /\ ∃ b, Js (ρ id path) = some b /\ v = .pointer (some (b.add off))
 | .sptr cs off, v, L => L = [] /\ ∃ (b : Addr) (us : List Value) (r : Rho), v = .pointer (some (b.add off)) /\ F b.block /\ (∀ (j : Nat) (u : Value), us[j]? = some u -> w.cell? (b.add j) = some u) /\ RDs F w cs 0 r us []
 | .agg l, v, L => ∃ vs, v = .agg vs.toArray /\ SRs F w ρ l vs L
 | .tup l, v, L => ∃ vs, v = .tuple vs.toArray /\ SRs F w ρ l vs L
 | .clo g l, v, L => ∃ vs, v = .func (.func g) #[] vs.toArray /\ SRs F w ρ l vs L
 | .tupn id l, v, L => v = ρ id [] /\ ∃ vs, v = .tuple vs.toArray /\ SRs F w ρ l vs L
 | .tupr _ id l, v, L => v = ρ id [] /\ ∃ vs, v = .tuple vs.toArray /\ SRs F w ρ l vs L
 | .dead, _, L => L = []
def SRs (F : Nat -> Prop) (w : World) (ρ : Nat -> Rho) : List AV -> List Value -> List Nat -> Prop
 | [], vs, L => vs = [] /\ L = []
 | a :: l, vs, L => ∃ v vs' L1 L2, vs = v :: vs' /\ L = L1 ++ L2 /\ SR F w ρ a v L1 /\ SRs F w ρ l vs' L2
end
mutual
theorem SR.same {F F' : Nat -> Prop} {w w' : World} {ρ ρ' : Nat -> Rho} (hF : ∀ g, F g -> F' g) (hs : ∀ g, F g -> Vh w w' g) :
  ∀ (a : AV) (v : Value) (L : List Nat), SR F w ρ a v L -> (∀ g ∈ L, Vh w w' g) -> (∀ i ∈ a.ids, ρ' i = ρ i) -> SR F' w' ρ' a v L
 | .c d, v, L, h, _, _ => by
  simp only [SR] at h ⊢
  obtain ⟨h1, r, h3⟩ := h
  exact ⟨h1, r, RD.same hF hs d r v [] h3 (fun g hg => by simp at hg)⟩
 | .own id d, v, L, h, hL, hi => by
  simp only [SR] at h ⊢
  rw [hi id u3]
  exact RD.same hF hs d _ v L h hL
 | .raw d, v, L, h, hL, _ => by
  simp only [SR] at h ⊢
  obtain ⟨r, h⟩ := h
  exact ⟨r, RD.same hF hs d r v L h hL⟩
 | .als x id p, v, L, h, _, hi => by
  simp only [SR] at h ⊢
  rw [hi id u3]; exact h
 | .sub x id p sz lo n, v, L, h, _, hi => by
  simp only [SR] at h ⊢
  rw [hi id u3]; exact h
 | .ptr x id p o, v, L, h, _, hi => by
  simp only [SR] at h ⊢
  rw [hi id u3]; exact h
 | .sptr cs o, v, L, h, _, _ => by
  simp only [SR] at h ⊢
  obtain ⟨h1, b, us, r, h3, h4, h5, h6⟩ := h
  exact ⟨h1, b, us, r, h3, hF _ h4, fun j u hu => (Zcz (by rw [Q4]; exact hs _ h4)).trans (h5 j u hu), RDs.same hF hs cs 0 r us [] h6 (fun g hg => by simp at hg)⟩
 | .agg l, v, L, h, hL, hi => by
  simp only [SR] at h ⊢
  obtain ⟨vs, h1, h2⟩ := h
  exact ⟨vs, h1, SRs.same hF hs l vs L h2 hL (by simpa only [AV.ids] using hi)⟩
 | .tup l, v, L, h, hL, hi => by
  simp only [SR] at h ⊢
  obtain ⟨vs, h1, h2⟩ := h
  exact ⟨vs, h1, SRs.same hF hs l vs L h2 hL (by simpa only [AV.ids] using hi)⟩
 | .clo g l, v, L, h, hL, hi => by
  simp only [SR] at h ⊢
  obtain ⟨vs, h1, h2⟩ := h
  exact ⟨vs, h1, SRs.same hF hs l vs L h2 hL (by simpa only [AV.ids] using hi)⟩
 | .tupn id l, v, L, h, hL, hi => by
  simp only [SR] at h ⊢
  obtain ⟨h0, vs, h1, h2⟩ := h
  exact ⟨by rw [hi id u3]; exact h0, vs, h1, SRs.same hF hs l vs L h2 hL (fun i h => hi i (by simp [AV.ids, h]))⟩
 | .tupr x id l, v, L, h, hL, hi => by
  simp only [SR] at h ⊢
  obtain ⟨h0, vs, h1, h2⟩ := h
  exact ⟨by rw [hi id u3]; exact h0, vs, h1, SRs.same hF hs l vs L h2 hL (fun i h => hi i (by simp [AV.ids, h]))⟩
 | .dead, v, L, h, _, _ => by simpa only [SR] using h
theorem SRs.same {F F' : Nat -> Prop} {w w' : World} {ρ ρ' : Nat -> Rho} (hF : ∀ g, F g -> F' g) (hs : ∀ g, F g -> Vh w w' g) :
  ∀ (l : List AV) (vs : List Value) (L : List Nat), SRs F w ρ l vs L -> (∀ g ∈ L, Vh w w' g) -> (∀ i ∈ AV.idss l, ρ' i = ρ i) -> SRs F' w' ρ' l vs L
 | [], _, _, h, _, _ => by simpa only [SRs] using h
 | a :: l, vs, L, h, hL, hi => by
  simp only [SRs] at h ⊢
  obtain ⟨v, vs', L1, L2, rfl, rfl, h1, h2⟩ := h
  simp only [AV.idss, List.mem_append] at hi
  exact ⟨v, vs', L1, L2, rfl, rfl, SR.same hF hs a v L1 h1 (fun g hg => hL g u5) (fun i h => hi i (.inl h)), SRs.same hF hs l vs' L2 h2 (fun g hg => hL g u5) (fun i h => hi i (.inr h))⟩
end
structure Zy (w : World) (M : List Nat) (w' : World) : Prop where
 os : w'.os = w.os
 tape : w'.tape = w.tape
 output : w'.output = w.output
 size : w.heap.size <= w'.heap.size
 block : ∀ g, g < w.heap.size -> g ∉ M -> Vh w w' g
 drawn : w.drawn <= w'.drawn
theorem Zy.refl (w : World) : Zy w [] w := ⟨rfl, rfl, rfl, Nat.le_refl _, fun _ _ _ => rfl, Nat.le_refl _⟩
theorem Zy.trans {a b c : World} {M N : List Nat} (h : Zy a M b) (k : Zy b N c) (hN : ∀ g ∈ N, g < a.heap.size -> g ∈ M) : Zy a M c :=
 ⟨k.os.trans h.os, k.tape.trans h.tape, k.output.trans h.output, Nat.le_trans h.size k.size, fun g hg hM =>
  (k.block g (Nat.lt_of_lt_of_le hg h.size) (fun hn => hM (hN g hn hg))).trans (h.block g hg hM), Nat.le_trans h.drawn k.drawn⟩
theorem Zy.of_grown {w w' : World} {row : Option Nat} (h : w.grownBy w' row) (hd : w.drawn <= w'.drawn) : Zy w row.toList w' :=
 ⟨h.os, h.tape, h.output, h.size, fun g hg hM => h.block g hg (by rintro rfl; simp at hM), hd⟩
theorem Zy.alloc (w : World) (o : Obj) : Zy w [] (w.alloc o) := Zy.of_grown (World.grownBy_alloc w o none) (Nat.le_refl _)
theorem Zy.drew (w : World) : Zy w [] { w with drawn := w.drawn + 1 } := ⟨rfl, rfl, rfl, Nat.le_refl _, fun _ _ _ => rfl, Nat.le_succ _⟩
structure NN where
 fn : Nat -> Bool
 K : List (Nat × Value)
 R : List (Nat × Rho)
 S : List (Value × List Int)
instance : CoeFun NN (fun _ => Nat -> Bool) := ⟨NN.fn⟩
structure Fr where
 w0 : World
 M : List Nat
 N : NN
 H : List (Nat × Value)
 /-- The blocks that nobody writes as long as the frame runs, and that its arguments may lie in. -/
 F : Nat -> Prop
 hF : ∀ g, F g -> g < w0.heap.size /\ g ∉ M
 /-- The names that some roots keep. -/
 R : List (Nat × Rho) := []
 hK : ∀ q ∈ N.K, q ∈ H
 hR : ∀ q ∈ N.R, q ∈ R
 hS : ∀ q ∈ N.S, Ui F w0 q.1 1 (q.2.map (.int .i64))
def tmp (a : Act) (t : Nat) : Value := a.tmps.getD t undef
structure Ve (f : Fr) (X : Nat -> Prop) (st : Nat -> AV) (a : Act) (w : World) (ρ : Nat -> Rho) (L : Nat -> List Nat) : Prop where
 defers : a.defers = []
 size : ∀ d, f.N d = true -> d < a.tmps.size
 hold : ∀ q ∈ f.H, f.N q.1 = false /\ tmp a q.1 = q.2
 keep : Zy f.w0 f.M w
 slots : ∀ t, SR f.F w ρ (st t) (tmp a t) (L t)
 nodup : ∀ t, (L t).Nodup
 disj : ∀ t u, t ≠ u -> ∀ g ∈ L t, g ∉ L u
 bound : ∀ t, ∀ g ∈ L t, g < w.heap.size /\ ¬ f.F g
 ids : ∀ t, ∀ i ∈ (st t).ids, X i
 mine : ∀ t, ∀ g ∈ L t, g ∈ f.M \/ f.w0.heap.size <= g
 names : ∀ q ∈ f.R, X q.1 /\ ρ q.1 = q.2
def Rep (f : Fr) (X : Nat -> Prop) (st : Nat -> AV) (a : Act) (w : World) : Prop := ∃ ρ L, Ve f X st a w ρ L
section
variable {f : Fr} {X : Nat -> Prop} {st : Nat -> AV} {a : Act} {w : World} {ρ : Nat -> Rho} {L : Nat -> List Nat}
theorem Ve.F_lt (h : Ve f X st a w ρ L) {g : Nat} (hg : f.F g) : g < w.heap.size := Nat.lt_of_lt_of_le (f.hF g hg).1 h.keep.size
theorem Ve.rows (h : Ve f X st a w ρ L) : ∀ q ∈ f.N.S, Ui f.F w q.1 1 (q.2.map (.int .i64)) :=
 fun q hq => (f.hS q hq).same (fun _ h => h) fun g hg => h.keep.block g (f.hF g hg).1 (f.hF g hg).2
theorem Ve.step (h : Ve f X st a w ρ L) (T : Nat -> Prop) (Mw : List Nat) (X' : Nat -> Prop) (st' : Nat -> AV) (a' : Act) (w' : World) (ρ' : Nat -> Rho) (L' : Nat -> List Nat)
  (hd : a'.defers = a.defers) (hsize : a'.tmps.size = a.tmps.size) (hH : ∀ t, f.N t = false -> tmp a' t = tmp a t) (hk : Zy w Mw w') (hM : ∀ g ∈ Mw, ∃ t, T t /\ g ∈ L t) (hρ : ∀ i, X i -> ρ' i = ρ i)
  (hsame : ∀ t, ¬ T t -> st' t = st t /\ tmp a' t = tmp a t /\ L' t = L t)
  (hnew : ∀ t, T t -> SR f.F w' ρ' (st' t) (tmp a' t) (L' t) /\ (L' t).Nodup /\ ∀ g ∈ L' t, g < w'.heap.size /\ ((∃ u, T u /\ g ∈ L u) \/ w.heap.size <= g))
  (hdisj : ∀ t u, T t -> T u -> t ≠ u -> ∀ g ∈ L' t, g ∉ L' u)
  (hX : ∀ i, X i -> X' i) (hids : ∀ t, T t -> ∀ i ∈ (st' t).ids, X' i) : Ve f X' st' a' w' ρ' L' := by
 have hF : ∀ g, f.F g -> Vh w w' g := fun g hg => hk.block g (h.F_lt hg) (fun hm => by
  obtain ⟨t, _, ht⟩ := hM g hm
  exact (h.bound t g ht).2 hg)
 have hL : ∀ t, ¬ T t -> ∀ g ∈ L t, Vh w w' g := fun t ht g hg => hk.block g (h.bound t g hg).1 (fun hm => by
  obtain ⟨u, hu, hgu⟩ := hM g hm
  exact h.disj t u (by rintro rfl; exact ht hu) g hg hgu)
 refine ⟨hd.trans h.defers, fun d hd => by rw [hsize]; exact h.size d hd, fun q hq => ⟨(h.hold q hq).1, (hH _ (h.hold q hq).1).trans (h.hold q hq).2⟩, h.keep.trans hk (fun g hg hlt => ?_), fun t => ?_, fun t => ?_, fun t u htu g hg hgu => ?_, fun t g hg => ?_, fun t i hi => ?_, fun t g hg => ?_, fun q hq => ⟨hX _ (h.names q hq).1, (hρ _ (h.names q hq).1).trans (h.names q hq).2⟩⟩
 ·obtain ⟨t, _, ht⟩ := hM g hg
  rcases h.mine t g ht with hm | hm
  ·exact hm
  ·omega
 ·by_cases ht : T t
  ·exact (hnew t ht).1
  ·obtain ⟨e1, e2, e3⟩ := hsame t ht
   rw [e1, e2, e3]
   exact SR.same (fun _ h => h) hF _ _ _ (h.slots t) (hL t ht) (fun i hi => hρ i (h.ids t i hi))
 ·by_cases ht : T t
  ·exact (hnew t ht).2.1
  ·rw [(hsame t ht).2.2]; exact h.nodup t
 ·by_cases ht : T t <;> by_cases hu : T u
  ·exact hdisj t u ht hu htu g hg hgu
  ·rw [(hsame u hu).2.2] at hgu
   rcases ((hnew t ht).2.2 g hg).2 with ⟨v, hv, hgv⟩ | hge
   ·exact h.disj v u (by rintro rfl; exact hu hv) g hgv hgu
   ·have := (h.bound u g hgu).1; omega
  ·rw [(hsame t ht).2.2] at hg
   rcases ((hnew u hu).2.2 g hgu).2 with ⟨v, hv, hgv⟩ | hge
   ·exact h.disj v t (by rintro rfl; exact ht hv) g hgv hg
   ·have := (h.bound t g hg).1; omega
  ·rw [(hsame t ht).2.2] at hg
   rw [(hsame u hu).2.2] at hgu
   exact h.disj t u htu g hg hgu
 ·by_cases ht : T t
  ·refine ⟨((hnew t ht).2.2 g hg).1, fun hf => ?_⟩
   rcases ((hnew t ht).2.2 g hg).2 with ⟨v, hv, hgv⟩ | hge
   ·exact (h.bound v g hgv).2 hf
   ·have := h.F_lt hf; omega
  ·rw [(hsame t ht).2.2] at hg
   exact ⟨Nat.lt_of_lt_of_le (h.bound t g hg).1 hk.size, (h.bound t g hg).2⟩
 ·by_cases ht : T t
  ·exact hids t ht i hi
  ·rw [(hsame t ht).1] at hi
   exact hX i (h.ids t i hi)
 ·by_cases ht : T t
  ·rcases ((hnew t ht).2.2 g hg).2 with ⟨v, hv, hgv⟩ | hge
   ·exact h.mine v g hgv
   ·exact .inr (Nat.le_trans h.keep.size hge)
  ·rw [(hsame t ht).2.2] at hg
   exact h.mine t g hg
end
def put (st : Nat -> AV) (d : Nat) (v : AV) : Nat -> AV := fun t => if t = d then v else st t
def Zn (st : Nat -> AV) : List (Nat × AV) -> Nat -> AV
 | [] => st
 | (d, v) :: l => Zn (put st d v) l
theorem Zo (st : Nat -> AV) (d : Nat) (v : AV) : put st d v d = v := by simp [put]
theorem Zi (st : Nat -> AV) (d t : Nat) (v : AV) (h : t ≠ d) : put st d v t = st t := by simp [put, h]
theorem Z9 (a : Act) (d : Nat) (v : Value) (h : d < a.tmps.size) : tmp (a.put (some d) v) d = v := by
 simp [tmp, Act.put, Array.getD_eq_getD_getElem?, h]
theorem Zm (a : Act) (d t : Nat) (v : Value) (h : t ≠ d) : tmp (a.put (some d) v) t = tmp a t := by
 simp [tmp, Act.put, Array.getD_eq_getD_getElem?, Ne.symm h]
theorem X7 (a : Act) (d : Option Nat) (v : Value) : (a.put d v).tmps.size = a.tmps.size := by cases d <;> simp [Act.put]
theorem X4 (a : Act) (d : Option Nat) (v : Value) : (a.put d v).defers = a.defers := by cases d <;> rfl
theorem Yj {N : Nat -> Bool} {a : Act} {d : Nat} (v : Value) (hd : N d = true) : ∀ t, N t = false -> tmp (a.put (some d) v) t = tmp a t :=
 fun t ht => Zm a d t v (by rintro rfl; rw [hd] at ht; cases ht)
section
variable {f : Fr} {X : Nat -> Prop} {st : Nat -> AV} {a : Act} {w : World} {ρ : Nat -> Rho} {L : Nat -> List Nat}
theorem Ve.put_light (h : Ve f X st a w ρ L) (d : Nat) (hd : f.N d = true) (av : AV) (v : Value) (w' : World) (hk : Zy w [] w')
  (hv : SR f.F w ρ av v []) (hids : ∀ i ∈ av.ids, X i) :
  Ve f X (put st d av) (a.put (some d) v) w' ρ (fun t => if t = d then [] else L t) := by
 refine h.step (fun t => t = d) [] X _ _ w' ρ _ (X4 _ _ _) (X7 _ _ _) (Yj _ hd) hk (fun g hg => by simp at hg) (fun _ _ => rfl) (fun t ht => ⟨Zi _ _ _ _ ht, Zm _ _ _ _ ht, by simp [ht]⟩) (fun t ht => ?_) (fun t u ht hu hne => absurd (ht.trans hu.symm) hne) (fun _ h => h) (fun t ht i hi => ?_)
 ·subst ht
  rw [Zo, Z9 _ _ _ (h.size _ hd), if_pos rfl]
  exact ⟨SR.same (fun _ h => h) (fun g hg => hk.block g (h.F_lt hg) (by simp)) av v [] hv (fun g hg => by simp at hg) (fun _ _ => rfl), List.nodup_nil, fun g hg => by simp at hg⟩
 ·subst ht; rw [Zo] at hi; exact hids i hi
theorem Ve.put_new (h : Ve f X st a w ρ L) (d : Nat) (hd : f.N d = true) (id : Nat) (hid : ¬ X id) (D1 : D) (v : Value) (w' : World) (hk : Zy w [] w') (r : Rho) (L1 : List Nat)
  (hv : RD f.F w' D1 r v L1) (hn : L1.Nodup) (hL : ∀ g ∈ L1, g < w'.heap.size /\ w.heap.size <= g) :
  Ve f (fun i => X i \/ i = id) (put st d (.own id D1)) (a.put (some d) v) w' (fun i => if i = id then r else ρ i) (fun t => if t = d then L1 else L t) := by
 refine h.step (fun t => t = d) [] _ _ _ w' _ _ (X4 _ _ _) (X7 _ _ _) (Yj _ hd) hk (fun g hg => by simp at hg) (fun i hi => by rw [if_neg (by rintro rfl; exact hid hi)]) (fun t ht => ⟨Zi _ _ _ _ ht, Zm _ _ _ _ ht, by simp [ht]⟩) (fun t ht => ?_) (fun t u ht hu hne => absurd (ht.trans hu.symm) hne) (fun _ h => .inl h) (fun t ht i hi => ?_)
 ·subst ht
  rw [Zo, Z9 _ _ _ (h.size _ hd), if_pos rfl]
  refine ⟨?_, hn, fun g hg => ⟨(hL g hg).1, .inr (hL g hg).2⟩⟩
  simp only [SR, if_true]
  exact hv
 ·subst ht; rw [Zo] at hi; simp only [AV.ids, List.mem_singleton] at hi; exact .inr hi
theorem Ve.done_light {K : Act -> World -> Prop} {nid : Nat} (h : Ve f X st a w ρ L) {d : Nat} {av : AV} (hK : ∀ a' w', Rep f (fun i => X i \/ i = nid) (Zn st [(d, av)]) a' w' -> K a' w') (hd : f.N d = true) (v : Value) (w' : World) (hk : Zy w [] w')
  (hv : SR f.F w ρ av v []) (hids : ∀ i ∈ av.ids, X i) : K (a.put (some d) v) w' := by
 have k := h.put_light d hd av v w' hk hv hids
 exact hK _ _ ⟨ρ, _, ⟨k.defers, k.size, k.hold, k.keep, k.slots, k.nodup, k.disj, k.bound, fun t i hi => .inl (k.ids t i hi), k.mine, fun q hq => ⟨.inl (k.names q hq).1, (k.names q hq).2⟩⟩⟩
theorem Ve.done_lit {K : Act -> World -> Prop} {nid : Nat} (h : Ve f X st a w ρ L) {d : Nat} {v : Value} (hK : ∀ a' w', Rep f (fun i => X i \/ i = nid) (Zn st [(d, .c (.lit v))]) a' w' -> K a' w') (hd : f.N d = true) (hv : v.oneCell' = true) : K (a.put (some d) v) w :=
 h.done_light hK hd v w (Zy.refl w) (by simp only [SR, RD]; exact ⟨trivial, fun _ => .bool true, trivial, hv, trivial⟩) u3
theorem Ve.done_new {K : Act -> World -> Prop} (h : Ve f X st a w ρ L) {d : Nat} {id : Nat} {D1 : D} (hK : ∀ a' w', Rep f (fun i => X i \/ i = id) (Zn st [(d, .own id D1)]) a' w' -> K a' w') (hd : f.N d = true) (hid : ¬ X id) (v : Value) (w' : World) (hk : Zy w [] w') (r : Rho) (L1 : List Nat)
  (hv : RD f.F w' D1 r v L1) (hn : L1.Nodup) (hL : ∀ g ∈ L1, g < w'.heap.size /\ w.heap.size <= g) : K (a.put (some d) v) w' :=
 hK _ _ ⟨_, _, h.put_new d hd id hid D1 v w' hk r L1 hv hn hL⟩
theorem Ve.weaken (h : Ve f X st a w ρ L) {X' : Nat -> Prop} (hX : ∀ i, X i -> X' i) : Ve f X' st a w ρ L :=
 ⟨h.defers, h.size, h.hold, h.keep, h.slots, h.nodup, h.disj, h.bound, fun t i hi => hX i (h.ids t i hi), h.mine, fun q hq => ⟨hX _ (h.names q hq).1, (h.names q hq).2⟩⟩
end
structure Zee (f f' : Fr) : Prop where
 N : f'.N = f.N
 H : f'.H = f.H
 R : f'.R = f.R
 F : ∀ g, f.F g -> f'.F g
 keep : Zy f.w0 f.M f'.w0
 M : ∀ g ∈ f'.M, g ∈ f.M \/ f.w0.heap.size <= g
 new : ∀ g, f'.F g -> f.F g \/ g ∈ f.M \/ f.w0.heap.size <= g
 still : f.N.S ≠ [] -> f' = f
theorem Zee.refl (f : Fr) : Zee f f :=
 ⟨rfl, rfl, rfl, fun _ h => h, ⟨rfl, rfl, rfl, Nat.le_refl _, fun _ _ _ => rfl, Nat.le_refl _⟩, fun _ h => .inl h, fun _ h => .inl h, fun _ => rfl⟩
theorem Zee.trans {f f' f'' : Fr} (h : Zee f f') (k : Zee f' f'') : Zee f f'' :=
 ⟨k.N.trans h.N, k.H.trans h.H, k.R.trans h.R, fun g hg => k.F g (h.F g hg), h.keep.trans k.keep (fun g hg hlt => by
  rcases h.M g hg with h1 | h1
  ·exact h1
  ·omega), fun g hg => by
  rcases k.M g hg with h1 | h1
  ·exact h.M g h1
  ·exact .inr (Nat.le_trans h.keep.size h1), fun g hg => by
  rcases k.new g hg with h1 | h1 | h1
  ·exact h.new g h1
  ·rcases h.M g h1 with h2 | h2
   ·exact .inr (.inl h2)
   ·exact .inr (.inr h2)
  ·exact .inr (.inr (Nat.le_trans h.keep.size h1)), fun hs => by
  have e := h.still hs
  subst e
  exact k.still hs⟩
def Yy (f : Fr) (X : Nat -> Prop) (st : Nat -> AV) (a : Act) (w : World) : Prop := ∃ f', Zee f f' /\ Rep f' X st a w
theorem Yy.of {f : Fr} {X : Nat -> Prop} {st : Nat -> AV} {a : Act} {w : World} (h : Rep f X st a w) : Yy f X st a w := ⟨f, .refl f, h⟩
theorem Yy.still {f : Fr} {X : Nat -> Prop} {st : Nat -> AV} {a : Act} {w : World} (hs : f.N.S ≠ []) (h : Yy f X st a w) : Rep f X st a w := by
 obtain ⟨f', k, h⟩ := h
 rwa [k.still hs] at h
def Kg : List (Value × List Int) := [(.slice none 0 0, [])]
theorem Yy.up {f f' : Fr} {X : Nat -> Prop} {st : Nat -> AV} {a : Act} {w : World} (h : Yy f' X st a w) (k : Zee f f') : Yy f X st a w :=
 let ⟨f'', k', h⟩ := h
 ⟨f'', k.trans k', h⟩
end Go.Pv
