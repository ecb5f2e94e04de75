/- Calls that write into the parts of an aggregate that they are handed, and leave it with its owner. No condition. -/
import Derived.Test.YtohhkbbjdjibgaaFPvL
set_option linter.unusedVariables false
set_option linter.unusedSimpArgs false
namespace Go.Pv
open Go.RowKit
section
variable {P : Program} {n : NN} {nid : Nat} {st : Nat → AV} {f : Fr} {X : Nat → Prop} {a : Act} {w : World} {ρ : Nat → Rho} {L : Nat → List Nat} {M : List Nat}
theorem WpA.loop_ids2 {c : Code} {nx : Nat} {Q : Exit → (Nat → AV) → Nat → Prop} (slots : Nat → Nat → Nat → List (Nat × AV)) (C : Nat → Prop) (μ : Nat → Nat) (i0 a0 b0 : Nat) (hC : C i0) (h0 : Has st (slots i0 a0 b0))
  (round : ∀ i a b s k, C i → WpA P n c (puts s (slots i a b)) k (Then (fun s' _ => ∃ i', C i' ∧ (∃ a' b', Has s' (slots i' a' b')) ∧ μ i' < μ i) Q)) : WpA P n (.loop c) st nx Q :=
 WpA.loop_slots (ι := Nat × Nat × Nat) (fun p => slots p.1 p.2.1 p.2.2) (fun p => C p.1) (fun p => μ p.1) (i0, a0, b0) hC h0 fun p s k hp =>
  (round p.1 p.2.1 p.2.2 s k hp).mono fun e s' k' q => by
   cases e with
   | normal => obtain ⟨i', q1, ⟨a', b', q2⟩, q3⟩ := q; exact ⟨(i', a', b'), q1, q2, q3⟩
   | _ => exact q
theorem WpA.loop_ids3 {c : Code} {nx : Nat} {Q : Exit → (Nat → AV) → Nat → Prop} (slots : Nat → Nat → Nat → Nat → List (Nat × AV)) (C : Nat → Prop) (μ : Nat → Nat) (i0 a0 b0 c0 : Nat) (hC : C i0) (h0 : Has st (slots i0 a0 b0 c0))
  (round : ∀ i a b c' s k, C i → WpA P n c (puts s (slots i a b c')) k (Then (fun s' _ => ∃ i', C i' ∧ (∃ a' b' c'', Has s' (slots i' a' b' c'')) ∧ μ i' < μ i) Q)) : WpA P n (.loop c) st nx Q :=
 WpA.loop_slots (ι := Nat × Nat × Nat × Nat) (fun p => slots p.1 p.2.1 p.2.2.1 p.2.2.2) (fun p => C p.1) (fun p => μ p.1) (i0, a0, b0, c0) hC h0 fun p s k hp =>
  (round p.1 p.2.1 p.2.2.1 p.2.2.2 s k hp).mono fun e s' k' q => by
   cases e with
   | normal => obtain ⟨i', q1, ⟨a', b', c', q2⟩, q3⟩ := q; exact ⟨(i', a', b', c'), q1, q2, q3⟩
   | _ => exact q
end
end Go.Pv
