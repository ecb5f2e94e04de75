/- Some vertices of a graph and the edges between them: a graph again. No condition. -/
import Derived.Test.YtneomlnhlpkbjaaGreatMGrI
set_option linter.unusedVariables false
set_option linter.unusedSimpArgs false
namespace Go.Proofs.YtneomlnhlpkbjaaGreat
end Go.Proofs.YtneomlnhlpkbjaaGreat
namespace Go.Proofs.YtneomlnhlpkbjaaGreat
def kp (K : List Bool) (i : Nat) : Bool := K.getD i false
theorem goodE_of {n : Nat} {E : List (List Int)} (h1 : ∀ e ∈ E, ∃ a b : Int, e = [a, b] ∧ 0 ≤ a ∧ a < b ∧ b < n) (h2 : E.Pairwise fun e e' => lexC e e' < 0) : GoodE n E := by
  intro j hj
  have e : E.getD j [] = E[j] := by simp [List.getD, hj]
  obtain ⟨a, b, hab, k1, k2, k3⟩ := h1 E[j] (by simp)
  refine ⟨by rw [e, hab]; rfl, ?_, fun h0 => ?_⟩
  · unfold ea eb
    rw [e, hab]
    exact ⟨k1, k2, k3⟩
  · have e2 : E.getD (j - 1) [] = E[j - 1] := by simp [List.getD, show j - 1 < E.length by omega]
    rw [e, e2]
    exact List.pairwise_iff_getElem.1 h2 (j - 1) j (by omega) hj (by omega)
theorem labI_take {n : Nat} {E : List (List Int)} {m : Nat} : ∀ j, j ≤ m → labI n (E.take m) j = labI n E j
  | 0, _ => rfl
  | j + 1, hj => by
    have ih := labI_take (n := n) (E := E) (m := m) j (by omega)
    have e : ∀ k, (E.take m).getD k [] = if k < m then E.getD k [] else [] := fun k => by
      simp only [List.getD_eq_getElem?_getD, List.getElem?_take]
      split <;> rfl
    have e1 : ea (E.take m) j = ea E j := by unfold ea; rw [e, if_pos (by omega)]
    have e2 : eb (E.take m) j = eb E j := by unfold eb; rw [e, if_pos (by omega)]
    rw [labI, labI, ih, e1, e2]
theorem good_take {n : Nat} {E : List (List Int)} (hg : GoodE n E) (m : Nat) : GoodE n (E.take m) := by
  intro j hj
  rw [List.length_take] at hj
  have h := hg j (by omega)
  have e : ∀ k, k < m → (E.take m).getD k [] = E.getD k [] := fun k hk => by
    simp only [List.getD_eq_getElem?_getD, List.getElem?_take, if_pos hk]
  have e1 : ea (E.take m) j = ea E j := by unfold ea; rw [e j (by omega)]
  have e2 : eb (E.take m) j = eb E j := by unfold eb; rw [e j (by omega)]
  refine ⟨by rw [e j (by omega)]; exact h.1, by rw [e1, e2]; exact h.2.1, fun h0 => ?_⟩
  rw [e j (by omega), e (j - 1) (by omega)]
  exact h.2.2 h0
theorem acy_of {n : Nat} {E : List (List Int)} (hg : GoodE n E) (hf : Forest E) : Acy n E := by
  intro j hj hlab
  have g := (hg j hj).2.1
  have hgt := good_take hg j
  have hmem : ∀ e ∈ E.take j, e ∈ E := fun e he => List.mem_of_mem_take he
  have hlen : (E.take j).length = j := by simp; omega
  rw [← labI_take (n := n) (E := E) j (Nat.le_refl _)] at hlab
  have key := closed_lab hgt (S := fun y => ∃ u, Bw (E.take j) (ea E j) [] y u) (fun a b hab hs => bw_adj hgt hab hs) j (by omega) (ea E j).toNat (eb E j).toNat (by omega) (by omega) hlab
  have e1 : ((ea E j).toNat : Int) = ea E j := by omega
  have e2 : ((eb E j).toNat : Int) = eb E j := by omega
  rw [e1, e2] at key
  obtain ⟨u, l, p, h1, h2, h3⟩ := key ⟨_, Bw.self (show NB _ [ea E j] from trivial)⟩
  have hE : NB E (eb E j :: l) := NB.mono hmem h1
  have hab : Adj E (ea E j) (eb E j) := .inl (List.mem_of_getElem? ((hg j hj).edge hj))
  have hmemA : ea E j ∈ l := by
    cases p with
    | nil =>
      obtain ⟨e, _⟩ := List.cons.inj h2
      omega
    | cons y p =>
      obtain ⟨_, e⟩ := List.cons.inj h2
      rw [e]; simp
  by_cases hz : ∃ l', l = ea E j :: l'
  · obtain ⟨l', rfl⟩ := hz
    have had : Adj (E.take j) (eb E j) (ea E j) := h1.adj
    have hin : [ea E j, eb E j] ∈ E.take j := by
      rcases had with h | h
      · obtain ⟨i, hi, e, g1, g2, g3⟩ := hgt.mem h
        simp only [List.cons.injEq, and_true] at e
        omega
      · exact h
    obtain ⟨i, hi, e, _⟩ := hgt.mem hin
    rw [hlen] at hi
    simp only [List.cons.injEq, and_true] at e
    have e3 : ea (E.take j) i = ea E i := by unfold ea; simp only [List.getD_eq_getElem?_getD, List.getElem?_take, if_pos hi]
    have e4 : eb (E.take j) i = eb E i := by unfold eb; simp only [List.getD_eq_getElem?_getD, List.getElem?_take, if_pos hi]
    rw [e3, e4] at e
    have := edges_lt hg j hj i hi
    omega
  · have hn := hf _ (hE.cons hab fun z l' e e5 => hz ⟨l', by rw [e, e5]⟩)
    rw [List.nodup_cons] at hn
    exact hn.1 (List.mem_cons_of_mem _ hmemA)
end Go.Proofs.YtneomlnhlpkbjaaGreat
