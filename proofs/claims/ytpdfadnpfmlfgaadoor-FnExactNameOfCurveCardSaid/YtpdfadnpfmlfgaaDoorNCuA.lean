/- Multiplicities of branches: at most one point far ahead is met by the sums (plain). No condition. -/
import Derived.Test.YtpdfadnpfmlfgaaDoorNAbA
set_option linter.unusedVariables false
set_option linter.unusedSimpArgs false
namespace Go.Proofs.YtpdfadnpfmlfgaaDoor
set_option maxHeartbeats 20000000
open Go.Pv
open Go.ChangeShapes Go.WideShapes Go.ChangeAt Go.RowKit
attribute [local irreducible] RunU WpA Step CallG CallNG Done DoneN
def sumI : List Int → Int
  | [] => 0
  | x :: l => x + sumI l
theorem sumI_app (a b : List Int) : sumI (a ++ b) = sumI a + sumI b := by
  induction a with
  | nil => simp [sumI]
  | cons x a ih => simp only [List.cons_append, sumI, ih]; omega
theorem sumI_pos {l : List Int} (h : ∀ x ∈ l, 0 < x) : 0 ≤ sumI l := by
  induction l with
  | nil => simp [sumI]
  | cons x l ih =>
    have h1 := h x (by simp)
    have h2 := ih fun y hy => h y (by simp [hy])
    simp only [sumI]; omega
theorem sumI_take {l : List Int} (h : ∀ x ∈ l, 0 < x) {a b : Nat} (hab : a ≤ b) : sumI (l.take a) ≤ sumI (l.take b) := by
  have e : l.take b = l.take a ++ (l.take b).drop a := by
    have := (List.take_append_drop a (l.take b)).symm
    rwa [List.take_take, Nat.min_eq_left hab] at this
  rw [e, sumI_app]
  have := sumI_pos (l := (l.take b).drop a) fun x hx => h x (List.mem_of_mem_take (List.mem_of_mem_drop hx))
  omega
def Dn (p : Int) (rest : List Int) : Prop := ∀ X p' c d Y, rest = X ++ p' :: c :: d :: Y → c < p' → p < sumI X + p' + c + d
def UN : List Int → Prop
  | [] => True
  | p :: rest => (Dn p rest ∧ (∀ x, rest.head? = some x → x ≤ p)) ∧ UN rest
theorem dn_of {p : Int} {rest : List Int} (hp : ∀ x ∈ rest, 0 < x) (q : Nat) (hc : ∀ x y, x < q → y < q → x < rest.length → y < rest.length → rest.getD x 0 = rest.getD y 0) (hs : p ≤ sumI (rest.take (q + 1))) : Dn p rest := by
  intro X p' c d Y e hlt
  have hq : q ≤ X.length + 1 := by
    refine Nat.le_of_not_lt fun h => ?_
    have := hc X.length (X.length + 1) (by omega) h (by rw [e]; simp) (by rw [e]; simp)
    rw [e] at this
    have e1 : (X ++ p' :: c :: d :: Y).getD X.length 0 = p' := by simp
    have e2 : (X ++ p' :: c :: d :: Y).getD (X.length + 1) 0 = c := by simp [List.getD_eq_getElem?_getD, List.getElem?_append_right]
    omega
  have h1 := sumI_take hp (a := q + 1) (b := X.length + 2) (by omega)
  have e3 : rest.take (X.length + 2) = X ++ [p', c] := by
    rw [e, List.take_append, List.take_of_length_le (by omega), show X.length + 2 - X.length = 2 by omega]
    rfl
  rw [e3, sumI_app] at h1
  have hd := hp d (by rw [e]; simp)
  simp only [sumI] at h1
  omega
theorem dn_ones (p : Int) (n : Nat) : Dn p (List.replicate n 1) := by
  intro X p' c d Y e hlt
  have h1 : p' ∈ List.replicate n (1 : Int) := by rw [e]; simp
  have h2 : c ∈ List.replicate n (1 : Int) := by rw [e]; simp
  have := List.eq_of_mem_replicate h1
  have := List.eq_of_mem_replicate h2
  omega
theorem un_ones : ∀ n : Nat, UN (List.replicate n 1)
  | 0 => trivial
  | n + 1 => by
    rw [List.replicate_succ]
    refine ⟨⟨dn_ones 1 n, fun x hx => ?_⟩, un_ones n⟩
    have := List.eq_of_mem_replicate (List.mem_of_mem_head? hx)
    omega
theorem dn_same {p : Int} {rest : List Int} (hp : ∀ x ∈ rest, 0 < x) {q : Int} (hq : p ≤ q) : Dn p (q :: rest) := by
  intro X p' c d Y e hlt
  have hc : 0 < c ∧ 0 < d ∨ X = [] ∧ rest = c :: d :: Y := by
    cases X with
    | nil => exact .inr ⟨rfl, by simpa using (List.cons.inj e).2⟩
    | cons y X =>
      have e2 := (List.cons.inj e).2
      exact .inl ⟨hp c (by rw [e2]; simp), hp d (by rw [e2]; simp)⟩
  cases X with
  | nil =>
    obtain ⟨e1, e2⟩ := List.cons.inj e
    have h1 := hp c (by rw [e2]; simp)
    have h2 := hp d (by rw [e2]; simp)
    simp only [sumI]
    omega
  | cons y X =>
    obtain ⟨e1, e2⟩ := List.cons.inj e
    have h1 := hp c (by rw [e2]; simp)
    have h2 := hp d (by rw [e2]; simp)
    have h3 := hp p' (by rw [e2]; simp)
    have h4 := sumI_pos (l := X) fun z hz => hp z (by rw [e2]; simp [hz])
    simp only [sumI]
    omega
theorem un_run {b : Int} {T : List Int} (hb : 0 < b) (hp : ∀ x ∈ T, 0 < x) (hT : UN T) (h1 : Dn b T ∧ (∀ x, T.head? = some x → x ≤ b)) : ∀ n : Nat, UN (List.replicate n b ++ T)
  | 0 => by simpa using hT
  | n + 1 => by
    rw [List.replicate_succ, List.cons_append]
    refine ⟨?_, un_run hb hp hT h1 n⟩
    cases n with
    | zero => simpa using h1
    | succ n =>
      rw [List.replicate_succ, List.cons_append]
      refine ⟨dn_same (fun x hx => ?_) (Int.le_refl _), fun x hx => ?_⟩
      · rcases List.mem_append.1 hx with h | h
        · have := List.eq_of_mem_replicate h
          omega
        · exact hp x h
      · have : b = x := by simpa using hx
        omega
theorem runL_cons (q b : Int) (R : List (List Int)) : runL ([q, b] :: R) = List.replicate q.toNat b ++ runL R := by simp [runL]
theorem rep_sum (n : Nat) (b : Int) : sumI (List.replicate n b) = n * b := by
  induction n with
  | zero => simp [sumI]
  | succ n ih =>
    rw [List.replicate_succ, sumI, ih]
    have : ((n + 1 : Nat) : Int) * b = n * b + b := by rw [Int.natCast_add, Int.add_mul]; simp
    omega
theorem un_steps {T : List Int} (hp : ∀ x ∈ T, 0 < x) (hT : UN T) : ∀ (f : Nat) (a b : Int), 0 < b → b ≤ a → b ≤ f →
    (Dn (Int.gcd a b) T ∧ (∀ x, T.head? = some x → x ≤ (Int.gcd a b : Int))) →
    UN (runL (stp f a b) ++ T) ∧ Dn a (runL (stp f a b) ++ T) ∧ (runL (stp f a b) ++ T).head? = some b ∧ ∀ x ∈ runL (stp f a b) ++ T, 0 < x
  | 0, a, b, h0, _, h2, _ => by simp at h2; omega
  | f + 1, a, b, h0, h1, h2, hg => by
    have hm := Int.emod_nonneg a (show b ≠ 0 by omega)
    have hl := Int.emod_lt_of_pos a h0
    have hd := Int.mul_ediv_add_emod a b
    have hq : 1 ≤ a / b := (Int.le_ediv_iff_mul_le h0).2 (by omega)
    rw [stp, if_pos h0, runL_cons, List.append_assoc]
    obtain ⟨n, hn⟩ : ∃ n : Nat, (a / b).toNat = n + 1 := ⟨(a / b).toNat - 1, by omega⟩
    have hnq : ((n + 1 : Nat) : Int) = a / b := by omega
    -- what stands behind the run
    have tail : ∃ U, U = runL (stp f b (a % b)) ++ T ∧ UN U ∧ (Dn b U ∧ (∀ x, U.head? = some x → x ≤ b)) ∧ (∀ x ∈ U, 0 < x) ∧ (a % b = 0 ∨ U.head? = some (a % b)) := by
      by_cases hr : a % b = 0
      · refine ⟨T, ?_, hT, ?_, hp, .inl hr⟩
        · rw [hr, stp_zero]; simp [runL]
        · have e : (Int.gcd a b : Int) = b := by
            have := Int.gcd_eq_natAbs_right (Int.dvd_of_emod_eq_zero hr)
            omega
          rwa [e] at hg
      · have e : (Int.gcd b (a % b) : Int) = (Int.gcd a b : Int) := by
          have : a % b = a - b * (a / b) := by omega
          rw [Int.gcd_comm b, this, Int.gcd_sub_right_left_of_dvd a ⟨a / b, rfl⟩]
        obtain ⟨k1, k2, k3, k4⟩ := un_steps hp hT f b (a % b) (by omega) (by omega) (by omega) (by rw [e]; exact hg)
        exact ⟨_, rfl, k1, ⟨k2, fun x hx => by rw [k3] at hx; injection hx; omega⟩, k4, .inr k3⟩
    obtain ⟨U, eU, hU, hbU, hpU, hh⟩ := tail
    rw [← eU]
    have hpos : ∀ x ∈ List.replicate (a / b).toNat b ++ U, 0 < x := fun x hx => by
      rcases List.mem_append.1 hx with h | h
      · have := List.eq_of_mem_replicate h
        omega
      · exact hpU x h
    refine ⟨un_run h0 hpU hU hbU _, ?_, by rw [hn, List.replicate_succ]; rfl, hpos⟩
    refine dn_of hpos (a / b).toNat (fun x y hx hy _ _ => ?_) ?_
    · have key : ∀ z, z < (a / b).toNat → (List.replicate (a / b).toNat b ++ U).getD z 0 = b := fun z hz => by
        rw [List.getD_eq_getElem?_getD, List.getElem?_append_left (by simpa using hz)]
        simp [hz]
      rw [key x hx, key y hy]
    · have e4 : sumI ((List.replicate (a / b).toNat b ++ U).take ((a / b).toNat + 1)) = b * (a / b) + sumI (U.take 1) := by
        rw [List.take_append, List.length_replicate, List.take_of_length_le (by simp), show (a / b).toNat + 1 - (a / b).toNat = 1 by omega, sumI_app, rep_sum, Int.mul_comm b]
        congr 2
        omega
      rw [e4]
      rcases hh with h | h
      · have := sumI_pos (l := U.take 1) fun x hx => hpU x (List.mem_of_mem_take hx)
        omega
      · cases U with
        | nil => simp at h
        | cons u U =>
          have : u = a % b := by simpa using h
          simp only [List.take_succ_cons, List.take_zero, sumI]
          omega
end Go.Proofs.YtpdfadnpfmlfgaaDoor
