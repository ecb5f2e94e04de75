/- Drawn graphs for blow-ups. No condition. -/
import Derived.Test.YtneomlnhlpkbjaaGreatMGdC
import Derived.Test.YtneomlnhlpkbjaaGreatMGwC
import Derived.Test.YtneomlnhlpkbjaaGreatMPwC
import Derived.Test.YtneomlnhlpkbjaaGreatMPvS
import Derived.Test.YtneomlnhlpkbjaaGreatMPvZ
import Derived.Test.YtneomlnhlpkbjaaGreatMPvU
import Derived.Test.YtneomlnhlpkbjaaGreatMBsC
set_option linter.unusedVariables false
set_option linter.unusedSimpArgs false
namespace Go.Proofs.YtneomlnhlpkbjaaGreat
set_option maxHeartbeats 20000000
open Go.Pv
open Go.ChangeShapes Go.WideShapes Go.ChangeAt Go.RowKit
attribute [local irreducible] RunU WpA Step CallG CallNG Done DoneN
instance fnOk72 : FnOk Tryz.prog 72 := ⟨_, Tryz.func72, rfl, by decide⟩
theorem fromG_ex {l : List Int} (hb : By l) : ∃ s : St, OkS l s ∧ CallS Tryz.prog 71 [aBy l] [.one (dSs l s)] [] := by
  obtain ⟨h, _, hF⟩ := from_c' l hb.len
  exact ⟨(0, h), ⟨by simp, by simp⟩, hF⟩
structure Gs (w : List Int) (E : List (List Int)) : Prop where
  lw : w.length ≤ 41
  b : ∀ i, -2000 ≤ w.getD i 0 ∧ w.getD i 0 ≤ 2000
  le : E.length ≤ 81
  l2 : ∀ r ∈ E, r.length = 2
set_option maxRecDepth 100000 in
theorem drawAny_ex {l : List Int} (hb : By l) {s : St} (hs : OkS l s) (most : Int) (hm : 1 ≤ most ∧ most ≤ 40) : ∃ (w : List Int) (E : List (List Int)) (s' : St), Gs w E ∧ OkS l s' ∧
    CallNS Tryz.prog 72 (dSs l s) [aI most] [rGr w E] (dSs l s') := by
  obtain ⟨w, E, s1, hw, hbd, hE, h22, hs1, hN1⟩ := draw_ex hb hs most hm
  obtain ⟨k, s2, d2⟩ := dr1_ex hb hs1 24
  have hN2 := d2.2.2
  by_cases h0 : k = 0
  · obtain ⟨p, s3, d3⟩ := dr1_ex hb d2.2.1 w.length
    obtain ⟨q, s4, d4⟩ := drP_ex hb d3.2.1 [1001, -1001] (by simp)
    have hN3 := d3.2.2
    have hN4 := d4.2.2
    have hp : 0 ≤ p ∧ p < w.length := ⟨d3.1.1, d3.1.2.2 (by omega)⟩
    have hq : -2000 ≤ q ∧ q ≤ 2000 := by
      obtain ⟨i, hi, e⟩ := d4.1
      match i, hi with
      | 0, _ => rw [e]; decide
      | 1, _ => rw [e]; decide
    refine ⟨w.set (p.toNat * 1) q, E, s4, ⟨by rw [List.length_set]; omega, fun i => ?_, by omega, h22⟩, d4.2.1, ?_⟩
    · have := hbd i
      rw [getD_setW]
      split <;> omega
    · subst h0
      clear d2 d3 d4 hbd hb h22
      refine callNS_of _ Tryz.func72 rfl Tryz.ntmps72 ?_
      repeat' (first | refine Two.mk (fun _ => ?_) (fun _ => ?_) | (guard_target =~ IsW; first | refine WpA.rerootC 17 0 13 rfl rfl rfl rfl ?_ | refine WpA.rerootC 47 13 0 rfl rfl rfl rfl ?_) | (guard_target =~ AtN 14; first | refine RunU.cons (step_call_ioS1 (hN2) io_any (.sh .nil) (.sh (by first | exact .lit rfl rfl | exact .c rfl) .nil) (by exact rfl) (by exact rfl) rfl) ?_) | (guard_target =~ AtN 21; first | refine RunU.cons (step_call_ioS1 (hN3) io_any (.sh .nil) (.sh (by first | exact .lit rfl rfl | exact .c rfl) .nil) (by exact rfl) (by exact rfl) rfl) ?_) | (guard_target =~ AtN 24; first | refine RunU.cons (step_call_ioS1 (hN4) io_any (.mv give_any .nil) (.mv .nil) (by exact rfl) (by exact rfl) rfl) ?_) | (guard_target =~ CallN_; first | refine RunU.cons (step_call_ioSV (hN1) io_any (.sh .nil) (.sh (by first | exact .lit rfl rfl | exact .c rfl) .nil) (by exact rfl) (by exact rfl) rfl) ?_) | refine goA ?_ | (refine neA ?_; first | refine nxA ?_ | refine DoneN.ret (.cell inferInstance rfl rfl .nil) rfl rfl rfl | refine DoneN.ret (.cell inferInstance rfl rfl .nil) rfl ?_ rfl | refine DoneN.ret (.cell inferInstance rfl rfl .nil) rfl rfl ?_ | refine DoneN.ret (.cell inferInstance rfl rfl .nil) rfl ?_ ?_ | refine DoneN.normal (.cell inferInstance rfl rfl .nil) rfl rfl rfl | refine DoneN.normal (.cell inferInstance rfl rfl .nil) rfl ?_ rfl | refine DoneN.normal (.cell inferInstance rfl rfl .nil) rfl rfl ?_ | refine DoneN.normal (.cell inferInstance rfl rfl .nil) rfl ?_ ?_) | fail)
      all_goals first | rfl | (exfalso; omega)
  · by_cases h1 : k = 1
    · obtain ⟨p, s3, d3⟩ := dr1_ex hb d2.2.1 w.length
      obtain ⟨q, s4, d4⟩ := dr1_ex hb d3.2.1 2
      have hN3 := d3.2.2
      have hN4 := d4.2.2
      have hp := d3.1.1
      have hq : 0 ≤ q ∧ q < 2 := ⟨d4.1.1, d4.1.2.2 (by omega)⟩
      refine ⟨w, E ++ [[p, (w.length : Int) - q]], s4, ⟨by omega, hbd, by simp; omega, fun r hr => (List.mem_append.1 hr).elim (h22 r) fun h => by rw [List.mem_singleton] at h; rw [h]; rfl⟩, d4.2.1, ?_⟩
      subst h1
      clear d2 d3 d4 hbd hb h22
      refine callNS_of _ Tryz.func72 rfl Tryz.ntmps72 ?_
      repeat' (first | refine Two.mk (fun _ => ?_) (fun _ => ?_) | (guard_target =~ IsW; first | refine WpA.rerootC 28 0 13 rfl rfl rfl rfl ?_ | refine WpA.rerootC 47 13 0 rfl rfl rfl rfl ?_) | (guard_target =~ AtN 14; first | refine RunU.cons (step_call_ioS1 (hN2) io_any (.sh .nil) (.sh (by first | exact .lit rfl rfl | exact .c rfl) .nil) (by exact rfl) (by exact rfl) rfl) ?_) | (guard_target =~ AtN 32; first | refine RunU.cons (step_call_ioS1 (hN3) io_any (.sh .nil) (.sh (by first | exact .lit rfl rfl | exact .c rfl) .nil) (by exact rfl) (by exact rfl) rfl) ?_) | (guard_target =~ AtN 35; first | refine RunU.cons (step_call_ioS1 (hN4) io_any (.sh .nil) (.sh (by first | exact .lit rfl rfl | exact .c rfl) .nil) (by exact rfl) (by exact rfl) rfl) ?_) | (guard_target =~ CallN_; first | refine RunU.cons (step_call_ioSV (hN1) io_any (.sh .nil) (.sh (by first | exact .lit rfl rfl | exact .c rfl) .nil) (by exact rfl) (by exact rfl) rfl) ?_) | refine goA ?_ | (refine neA ?_; first | refine nxA ?_ | refine DoneN.ret (.cell inferInstance rfl rfl .nil) rfl rfl rfl | refine DoneN.ret (.cell inferInstance rfl rfl .nil) rfl ?_ rfl | refine DoneN.ret (.cell inferInstance rfl rfl .nil) rfl rfl ?_ | refine DoneN.ret (.cell inferInstance rfl rfl .nil) rfl ?_ ?_ | refine DoneN.normal (.cell inferInstance rfl rfl .nil) rfl rfl rfl | refine DoneN.normal (.cell inferInstance rfl rfl .nil) rfl ?_ rfl | refine DoneN.normal (.cell inferInstance rfl rfl .nil) rfl rfl ?_ | refine DoneN.normal (.cell inferInstance rfl rfl .nil) rfl ?_ ?_) | fail)
      all_goals first | rfl | (exfalso; omega)
    · by_cases h2 : k = 2
      · refine ⟨w.drop 1, E, s2, ⟨by rw [List.length_drop]; omega, fun i => ?_, by omega, h22⟩, d2.2.1, ?_⟩
        · have := hbd (1 + i)
          rw [List.getD_eq_getElem?_getD, List.getElem?_drop, ← List.getD_eq_getElem?_getD]
          exact this
        · subst h2
          clear d2 hbd hb h22
          refine callNS_of _ Tryz.func72 rfl Tryz.ntmps72 ?_
          repeat' (first | refine Two.mk (fun _ => ?_) (fun _ => ?_) | (guard_target =~ AtN 14; first | refine RunU.cons (step_call_ioS1 (hN2) io_any (.sh .nil) (.sh (by first | exact .lit rfl rfl | exact .c rfl) .nil) (by exact rfl) (by exact rfl) rfl) ?_) | (guard_target =~ CallN_; first | refine RunU.cons (step_call_ioSV (hN1) io_any (.sh .nil) (.sh (by first | exact .lit rfl rfl | exact .c rfl) .nil) (by exact rfl) (by exact rfl) rfl) ?_) | (guard_target =~ IsN; first | refine RunU.cons (step_tail (l := 1) (by exact .part rfl rfl rfl) rfl rfl (by omega) rfl) ?_) | refine goA ?_ | (refine neA ?_; first | refine nxA ?_ | refine DoneN.ret (.cell inferInstance rfl rfl .nil) rfl rfl rfl | refine DoneN.ret (.cell inferInstance rfl rfl .nil) rfl ?_ rfl | refine DoneN.ret (.cell inferInstance rfl rfl .nil) rfl rfl ?_ | refine DoneN.ret (.cell inferInstance rfl rfl .nil) rfl ?_ ?_ | refine DoneN.normal (.cell inferInstance rfl rfl .nil) rfl rfl rfl | refine DoneN.normal (.cell inferInstance rfl rfl .nil) rfl ?_ rfl | refine DoneN.normal (.cell inferInstance rfl rfl .nil) rfl rfl ?_ | refine DoneN.normal (.cell inferInstance rfl rfl .nil) rfl ?_ ?_) | fail)
          all_goals first | rfl | (exfalso; omega)
      · refine ⟨w, E, s2, ⟨by omega, hbd, by omega, h22⟩, d2.2.1, ?_⟩
        clear d2 hbd hb h22
        refine callNS_of _ Tryz.func72 rfl Tryz.ntmps72 ?_
        repeat' (first | refine Two.mk (fun _ => ?_) (fun _ => ?_) | (guard_target =~ AtN 14; first | refine RunU.cons (step_call_ioS1 (hN2) io_any (.sh .nil) (.sh (by first | exact .lit rfl rfl | exact .c rfl) .nil) (by exact rfl) (by exact rfl) rfl) ?_) | (guard_target =~ CallN_; first | refine RunU.cons (step_call_ioSV (hN1) io_any (.sh .nil) (.sh (by first | exact .lit rfl rfl | exact .c rfl) .nil) (by exact rfl) (by exact rfl) rfl) ?_) | refine goA ?_ | (refine neA ?_; first | refine nxA ?_ | refine DoneN.ret (.cell inferInstance rfl rfl .nil) rfl rfl rfl | refine DoneN.ret (.cell inferInstance rfl rfl .nil) rfl ?_ rfl | refine DoneN.ret (.cell inferInstance rfl rfl .nil) rfl rfl ?_ | refine DoneN.ret (.cell inferInstance rfl rfl .nil) rfl ?_ ?_ | refine DoneN.normal (.cell inferInstance rfl rfl .nil) rfl rfl rfl | refine DoneN.normal (.cell inferInstance rfl rfl .nil) rfl ?_ rfl | refine DoneN.normal (.cell inferInstance rfl rfl .nil) rfl rfl ?_ | refine DoneN.normal (.cell inferInstance rfl rfl .nil) rfl ?_ ?_) | fail)
        all_goals first | rfl | (exfalso; omega)
inductive FcGo (l : List Int) (n : Nat) : Nat → List Int → St → List Int → St → Prop
  | done {w s} : FcGo l n 0 w s w s
  | stop {k w s x s1} (h : Dr1 l s 8 x s1) (hx : ¬ 0 < x) : FcGo l n (k + 1) w s w s1
  | next {k w s x s1 W S} (h : Dr1 l s 8 x s1) (hx : 0 < x) (r : FcGo l n k (w.set ((n - (k + 1)) * 1) (min (w.getD ((n - (k + 1)) * 1) 0) (-2))) s1 W S) : FcGo l n (k + 1) w s W S
end Go.Proofs.YtneomlnhlpkbjaaGreat
namespace Go.Pv
open Go.RowKit
section
variable {P : Program} {n : NN} {nid nx : Nat} {st : Nat → AV} {f : Fr} {X : Nat → Prop} {a : Act} {w : World} {ρ : Nat → Rho} {L : Nat → List Nat} {Q : Exit → (Nat → AV) → Nat → Prop}
theorem RepO.grow (h : RepO f X st a w ρ L) (hs : f.N.S = []) (N : Nat → Prop) (hN : ∀ g, N g → g < w.heap.size ∧ (∀ t, g ∉ L t) ∧ (g ∈ f.M ∨ f.w0.heap.size ≤ g)) :
    ∃ f', After f f' ∧ (∀ g, f'.F g ↔ f.F g ∨ N g) ∧ RepO f' X st a w ρ L := by
  let M' : List Nat := open Classical in (List.range w.heap.size).filter fun g => decide (¬ (f.F g ∨ N g) ∧ (g ∈ f.M ∨ f.w0.heap.size ≤ g))
  have hM' : ∀ g, g ∈ M' ↔ g < w.heap.size ∧ ¬ (f.F g ∨ N g) ∧ (g ∈ f.M ∨ f.w0.heap.size ≤ g) := fun g => by simp only [M', List.mem_filter, List.mem_range, decide_eq_true_eq]
  let f' : Fr := { w0 := w, M := M', N := f.N, H := f.H, F := fun g => f.F g ∨ N g, hF := fun g hg => ⟨Or.elim hg (fun h1 => h.F_lt h1) (fun h1 => (hN g h1).1), fun hm => ((hM' g).1 hm).2.1 hg⟩, R := f.R, hK := f.hK, hR := f.hR, hS := by rw [hs]; exact fun _ h => (List.not_mem_nil h).elim }
  refine ⟨f', ⟨rfl, rfl, rfl, fun g hg => .inl hg, h.keep, fun g hg => ((hM' g).1 hg).2.2, fun g hg => ?_, fun hne => absurd hs hne⟩, fun g => Iff.rfl, ?_⟩
  · rcases hg with hg | hg
    · exact .inl hg
    · exact .inr (hN g hg).2.2
  · refine ⟨h.defers, h.size, h.hold, ⟨rfl, rfl, rfl, Nat.le_refl _, fun _ _ _ => rfl, Nat.le_refl _⟩, fun t => SR.same (fun g hg => .inl hg) (fun _ _ => rfl) _ _ _ (h.slots t) (fun _ _ => rfl) (fun _ _ => rfl), h.nodup, h.disj, fun t g hg => ⟨(h.bound t g hg).1, fun hf => ?_⟩, h.ids, fun t g hg => .inl ((hM' g).2 ⟨(h.bound t g hg).1, fun hf => ?_, h.mine t g hg⟩), h.names⟩
    all_goals
      rcases hf with hf | hf
      · exact (h.bound t g hg).2 hf
      · exact (hN g hf).2.1 t hg
theorem RepO.drop (h : RepO f X st a w ρ L) (x : Nat) (av : AV) (Lx : List Nat) (hsr : SR f.F w ρ av (tmp a x) Lx) (hids : ∀ i ∈ av.ids, X i) (hsub : ∀ g ∈ Lx, g ∈ L x) (hnd : Lx.Nodup) : RepO f X (put st x av) a w ρ (fun t => if t = x then Lx else L t) := by
  refine h.step (fun t => t = x) [] X _ _ w ρ _ rfl rfl (fun _ _ => rfl) (Keep.refl w) (fun g hg => by simp at hg) (fun _ _ => rfl) (fun t ht => ⟨put_other _ _ _ _ ht, rfl, by simp [ht]⟩) (fun t ht => ?_) (fun t u ht hu htu => absurd (ht.trans hu.symm) htu) (fun _ h => h) (fun t ht i hi => ?_)
  · subst ht
    rw [put_same, if_pos rfl]
    exact ⟨hsr, hnd, fun g hg => ⟨(h.bound t g (hsub g hg)).1, .inl ⟨t, rfl, hsub g hg⟩⟩⟩
  · subst ht; rw [put_same] at hi; exact hids i hi
theorem WpA.freezeIn {c : Code} (x : Nat) {id : Nat} {ds : List D} (hS : n.S = []) (hx : st x = .own id (.pt true ds)) (h : WpA P n c (put st x (.own id (.pt true (D.erases ds)))) nx Q) : WpA P n c st nx Q := by
  refine WpA.of0 ?_
  intro f a w hn ⟨ρ, L, hr⟩
  subst hn
  have hsl := hr.slots x
  rw [hx] at hsl
  simp only [SR, RD] at hsl
  obtain ⟨e0, g, us, L1, ty, ev, eL, hb, hds⟩ := hsl
  have hnd := hr.nodup x
  rw [eL, List.nodup_cons] at hnd
  have hL1 : ∀ g', g' ∈ L1 → g' ∈ L x := fun g' hg => by rw [eL]; simp [hg]
  have hN : ∀ g', g' ∈ L1 → g' < w.heap.size ∧ (∀ t, g' ∉ (if t = x then [g] else L t)) ∧ (g' ∈ f.M ∨ f.w0.heap.size ≤ g') := fun g' hg => ⟨(hr.bound x g' (hL1 g' hg)).1, fun t ht => by
    split at ht
    · simp only [List.mem_singleton] at ht
      exact hnd.1 (by rw [← ht]; exact hg)
    · rename_i e
      exact hr.disj t x e g' ht (hL1 g' hg), hr.mine x g' (hL1 g' hg)⟩
  -- a frame in which the slot is dead but owns the variable's block
  let M' : List Nat := open Classical in (List.range w.heap.size).filter fun g' => decide (¬ (f.F g' ∨ g' ∈ L1) ∧ (g' ∈ f.M ∨ f.w0.heap.size ≤ g'))
  have hM' : ∀ g', g' ∈ M' ↔ g' < w.heap.size ∧ ¬ (f.F g' ∨ g' ∈ L1) ∧ (g' ∈ f.M ∨ f.w0.heap.size ≤ g') := fun g' => by simp only [M', List.mem_filter, List.mem_range, decide_eq_true_eq]
  let f2 : Fr := { w0 := w, M := M', N := f.N, H := f.H, F := fun g' => f.F g' ∨ g' ∈ L1, hF := fun g' hg => ⟨Or.elim hg (fun h1 => hr.F_lt h1) (fun h1 => (hN g' h1).1), fun hm => ((hM' g').1 hm).2.1 hg⟩, R := f.R, hK := f.hK, hR := f.hR, hS := by rw [hS]; exact fun _ h => (List.not_mem_nil h).elim }
  have k2 : After f f2 := ⟨rfl, rfl, rfl, fun g' hg => .inl hg, hr.keep, fun g' hg => ((hM' g').1 hg).2.2, fun g' hg => by
    rcases hg with hg | hg
    · exact .inl hg
    · exact .inr (hN g' hg).2.2, fun hne => absurd hS hne⟩
  have hdsE := RDs.erase (F' := f2.F) (fun g' hg => .inl hg) ds 0 _ us L1 hds (fun g' hg => .inr hg)
  have hr4 : RepO f2 (fun i => i < nx) (put st x (.own id (.pt true (D.erases ds)))) a w ρ (fun t => if t = x then [g] else L t) := by
    refine ⟨hr.defers, hr.size, hr.hold, ⟨rfl, rfl, rfl, Nat.le_refl _, fun _ _ _ => rfl, Nat.le_refl _⟩, fun t => ?_, fun t => ?_, fun t u htu g' hg hgu => ?_, fun t g' hg => ?_, fun t i hi => ?_, fun t g' hg => ?_, hr.names⟩
    · by_cases e : t = x
      · subst e
        rw [put_same, if_pos rfl]
        simp only [SR, RD]
        exact ⟨e0, g, us, [], ty, ev, rfl, hb, hdsE⟩
      · rw [put_other _ _ _ _ e, if_neg e]
        exact SR.same (fun g' hg => .inl hg) (fun _ _ => rfl) _ _ _ (hr.slots t) (fun _ _ => rfl) (fun _ _ => rfl)
    · skip
      split
      · simp
      · exact hr.nodup t
    · have back : ∀ t, g' ∈ (if t = x then [g] else L t) → g' ∈ L t := fun t ht => by
        split at ht
        · rename_i e
          simp only [List.mem_singleton] at ht
          rw [e, eL, ht]; simp
        · exact ht
      exact hr.disj t u htu g' (back t hg) (back u hgu)
    · have back : g' ∈ L t := by
        split at hg
        · rename_i e
          simp only [List.mem_singleton] at hg
          rw [e, eL, hg]; simp
        · exact hg
      refine ⟨(hr.bound t g' back).1, fun hf => ?_⟩
      rcases hf with hf | hf
      · exact (hr.bound t g' back).2 hf
      · exact (hN g' hf).2.1 t hg
    · by_cases e : t = x
      · subst e
        rw [put_same] at hi
        simp only [AV.ids, List.mem_singleton] at hi
        subst hi
        exact hr.ids t i (by rw [hx]; simp [AV.ids])
      · rw [put_other _ _ _ _ e] at hi; exact hr.ids t i hi
    · have back : g' ∈ L t := by
        split at hg
        · rename_i e
          simp only [List.mem_singleton] at hg
          rw [e, eL, hg]; simp
        · exact hg
      refine .inl ((hM' g').2 ⟨(hr.bound t g' back).1, fun hf => ?_, hr.mine t g' back⟩)
      rcases hf with hf | hf
      · exact (hr.bound t g' back).2 hf
      · exact (hN g' hf).2.1 t hg
  exact Code.wp_mono (fun _ _ _ ⟨s, m, q, r⟩ => ⟨s, m, q, r.up k2⟩) (h f2 a w rfl ⟨f2, .refl f2, ρ, _, hr4⟩)
end
def V.erase : V → V
  | .one d => .one d.erase
  | .agg ds => .agg (D.erases ds)
def V.avc : V → AV
  | .one d => .c d
  | .agg ds => .agg (ds.map AV.c)
def frzAV : List V → AV
  | [] => .dead
  | [v] => v.avc
  | vs => .tup (vs.map V.avc)
def CallF (P : Program) (K : FuncId) (args : List Arg) (rs : List V) : Prop :=
  ∀ (w : World) (vs : List Value) (M : List Nat) (F : Nat → Prop), (∀ g, F g → g < w.heap.size ∧ g ∉ M) → ArgsR F w args vs M → M.Nodup → (∀ g ∈ M, g < w.heap.size) →
    Calls P K vs.toArray w fun e w' => ∃ us, e = .returned (retVal us) ∧ Keep w M w' ∧ VRs (fun g => g < w'.heap.size ∧ (F g ∨ g ∈ M ∨ w.heap.size ≤ g)) w' rs us []
def DoneF (P : Program) (fn : Func) (rs : List V) (e : Exit) (s : Nat → AV) (_ : Nat) : Prop :=
  (e = .normal ∨ e = .ret) ∧ ∃ s' rs', Ress P s fn.results.toList rs' s' ∧ rs'.map V.erase = rs
section
variable {P : Program} {n : NN} {nid nx : Nat} {st : Nat → AV} {f : Fr} {X : Nat → Prop} {a : Act} {w : World} {ρ : Nat → Rho} {L : Nat → List Nat} {M : List Nat}
theorem DoneF.ret {fn : Func} {rs rs' : List V} {s s' : Nat → AV} {k : Nat} (hr : Ress P s fn.results.toList rs' s') (h : rs'.map V.erase = rs) : DoneF P fn rs .ret s k := ⟨.inr rfl, s', rs', hr, h⟩
theorem DoneF.normal {fn : Func} {rs rs' : List V} {s s' : Nat → AV} {k : Nat} (hr : Ress P s fn.results.toList rs' s') (h : rs'.map V.erase = rs) : DoneF P fn rs .normal s k := ⟨.inl rfl, s', rs', hr, h⟩
theorem VRs.erase {F F' : Nat → Prop} {w : World} (hF : ∀ g, F g → F' g) : ∀ {vs : List V} {us : List Value} {L0 : List Nat}, VRs F w vs us L0 → (∀ g ∈ L0, F' g) → VRs F' w (vs.map V.erase) us []
  | [], _, _, h, _ => by simp only [VRs, List.map_nil] at h ⊢; exact ⟨h.1, trivial⟩
  | v :: vs, us, L0, h, hL => by
    simp only [VRs, List.map_cons] at h ⊢
    obtain ⟨u, us', L1, L2, rfl, rfl, h1, h2⟩ := h
    refine ⟨u, us', [], [], rfl, rfl, ?_, VRs.erase hF h2 (fun g hg => hL g (by simp [hg]))⟩
    cases v with
    | one d => obtain ⟨r, h⟩ := h1; exact ⟨r, RD.erase hF d r u L1 h (fun g hg => hL g (by simp [hg]))⟩
    | agg ds => obtain ⟨r, vs, e, h⟩ := h1; exact ⟨r, vs, e, RDs.erase hF ds 0 r vs L1 h (fun g hg => hL g (by simp [hg]))⟩
theorem SRs_cs {F : Nat → Prop} : ∀ (ds : List D) (k : Nat) (r : Rho) (us : List Value), RDs F w ds k r us [] → SRs F w ρ (ds.map AV.c) us []
  | [], _, _, _, h => by simpa only [RDs, SRs, List.map_nil] using h
  | d :: ds, k, r, us, h => by
    simp only [RDs] at h
    obtain ⟨u, us', L1, L2, rfl, e, h1, h2⟩ := h
    obtain ⟨rfl, rfl⟩ := List.append_eq_nil_iff.1 e.symm
    simp only [List.map_cons, SRs, SR]
    exact ⟨u, us', [], [], rfl, rfl, ⟨rfl, _, h1⟩, SRs_cs ds (k + 1) r us' h2⟩
theorem SR_avc {F : Nat → Prop} {v : V} {u : Value} (h : VR F w v u []) : SR F w ρ v.avc u [] := by
  cases v with
  | one d => obtain ⟨r, h⟩ := h; simp only [V.avc, SR]; exact ⟨trivial, r, h⟩
  | agg ds => obtain ⟨r, us, e, h⟩ := h; simp only [V.avc, SR]; exact ⟨us, e, SRs_cs ds 0 r us h⟩
theorem SRs_avcs {F : Nat → Prop} : ∀ (vs : List V) (us : List Value), VRs F w vs us [] → SRs F w ρ (vs.map V.avc) us []
  | [], _, h => by simpa only [VRs, SRs, List.map_nil] using h
  | v :: vs, us, h => by
    simp only [VRs] at h
    obtain ⟨u, us', L1, L2, rfl, e, h1, h2⟩ := h
    obtain ⟨rfl, rfl⟩ := List.append_eq_nil_iff.1 e.symm
    simp only [List.map_cons, SRs]
    exact ⟨u, us', [], [], rfl, rfl, SR_avc h1, SRs_avcs vs us' h2⟩
theorem SR_frz {F : Nat → Prop} {vs : List V} {us : List Value} (h : VRs F w vs us []) : SR F w ρ (frzAV vs) (retVal us) [] := by
  have hl := h.length
  match vs, us, h, hl with
  | [], [], h, _ => simp only [frzAV, SR]
  | [v], [u], h, _ =>
    simp only [VRs] at h
    obtain ⟨u', us', L1, L2, e1, e, h1, _⟩ := h
    obtain ⟨rfl, rfl⟩ := List.append_eq_nil_iff.1 e.symm
    simp only [List.cons.injEq] at e1
    rw [← e1.1] at h1
    exact SR_avc h1
  | v1 :: v2 :: vs, u1 :: u2 :: us, h, _ =>
    simp only [frzAV, SR, retVal]
    exact ⟨_, rfl, SRs_avcs _ _ h⟩
theorem idss_cs (ds : List D) : AV.idss (ds.map AV.c) = [] := by
  induction ds with
  | nil => rfl
  | cons d ds ih => simp [AV.idss, AV.ids, ih]
theorem idss_avcs (vs : List V) : AV.idss (vs.map V.avc) = [] := by
  induction vs with
  | nil => rfl
  | cons v vs ih => cases v <;> simp [AV.idss, AV.ids, V.avc, ih, idss_cs]
theorem frz_ids (vs : List V) : (frzAV vs).ids = [] := by
  match vs with
  | [] => rfl
  | [v] => cases v <;> simp [frzAV, V.avc, AV.ids, idss_cs]
  | v1 :: v2 :: vs => simp only [frzAV, AV.ids, idss_avcs]
theorem step_callF {d : Nat} {K : FuncId} {xs : Array Operand} {ts : Array TypeId} {args : List Arg} {rs : List V} {rd rd2 : List Nat} {up : List (Nat × AV)} {ty pos aft g} [FnOk P K] (hc : CallF P K args rs) (hm : Moves st xs.toList args rd up) (hr : ReadsF (puts st up) xs.toList args rd2) (hS : n.S = []) (hd : n d = true) :
    StepX P n ⟨some d, .call ⟨.value (.func K), xs, ts⟩, ty, pos, aft, g⟩ nid st (rd ++ rd2) (up ++ [(d, frzAV rs)]) := by
  intro X st' hs hX f a w hn hrep Kk Q hK
  obtain ⟨f', k, ρ, L, h⟩ := hrep
  have hn' : f'.N = n := k.N.trans hn
  obtain ⟨L', M1, h1, h2⟩ := h.toM.moves (hm.agree (st' := st') fun s hs' => hs s (List.mem_append_left _ hs'))
  rw [puts_append] at hK
  rw [List.nil_append] at h1
  have h3 := args_ofF h1 h2 (hr.agree (st' := puts st' up) fun s hs' => puts_agree _ _ (hs s (List.mem_append_right _ hs')))
  refine wp_of_enter (run_call a.eval rfl w) ?_
  have e : xs.map a.eval = (xs.toList.map a.eval).toArray := by apply Array.ext'; rw [Array.toList_map]
  rw [e]
  refine (hc w _ M1 f'.F (fun g hg => ⟨h1.rep.F_lt hg, fun hm => (h1.bound g hm).2 hg⟩) h3 h1.nd (fun g hg => (h1.bound g hg).1)).mono ?_
  rintro e w' ⟨us, rfl, hk, hv⟩
  refine ⟨_, rfl, ?_⟩
  have hdd : f'.N d = true := by rw [hn']; exact hd
  have hr1 : RepO f' X (put (puts st' up) d .dead) (a.put (some d) (retVal us)) w' ρ (fun t => if t = d then [] else L' t) := by
    refine h1.step (fun t => t = d) M1 X _ _ w' ρ _ (put_defers _ _ _) (put_size _ _ _) (hold_put _ hdd) hk (fun g hg => .inr hg) (fun _ _ => rfl) (fun t ht => ⟨put_other _ _ _ _ ht, tmp_put_other _ _ _ _ ht, by simp [ht]⟩) (fun t ht => ?_) (fun t u ht hu hne => absurd (ht.trans hu.symm) hne) (fun _ h => h) (fun t ht i hi => ?_)
    · subst ht
      rw [put_same, if_pos rfl]
      exact ⟨by simp only [SR], List.nodup_nil, fun g hg => by simp at hg⟩
    · subst ht
      rw [put_same] at hi
      simp [AV.ids] at hi
  obtain ⟨f2, k2, hF2, hr2⟩ := hr1.grow (by rw [hn']; exact hS) (fun g => g < w'.heap.size ∧ (g ∈ M1 ∨ w.heap.size ≤ g)) (fun g hg => ⟨hg.1, fun t ht => by
    split at ht
    · simp at ht
    · rcases hg.2 with h | h
      · exact h1.disj t g ht h
      · have := (h1.rep.bound t g ht).1; omega, by
    rcases hg.2 with h | h
    · exact h1.mine g h
    · exact .inr (Nat.le_trans h1.rep.keep.size h)⟩)
  have hv2 : VRs f2.F w' rs us [] := hv.same (fun g hg => (hF2 g).2 (by
    rcases hg.2 with h | h | h
    · exact .inl h
    · exact .inr ⟨hg.1, .inl h⟩
    · exact .inr ⟨hg.1, .inr h⟩)) (fun _ _ => rfl) (fun _ _ => rfl)
  have hr3 := hr2.drop d (frzAV rs) [] (by rw [tmp_put_same _ _ _ (h1.rep.size _ hdd)]; exact SR_frz hv2) (by rw [frz_ids]; simp) (by simp) List.nodup_nil
  have e1 : put (put (puts st' up) d .dead) d (frzAV rs) = put (puts st' up) d (frzAV rs) := by
    funext t; unfold put; split <;> rfl
  rw [e1] at hr3
  exact hK _ _ ⟨f2, k.trans k2, ρ, _, hr3.weaken (fun i hi => .inl hi)⟩
theorem callF_of {K : FuncId} {fn : Func} {c : Code} {args : List Arg} {rs : List V} (m : Nat) (hf : P.funcs[K]? = some fn) (hb : fn.body = some c) (hm : fn.ntmps = m) (hh : heldOf 0 args = [])
    (h : WpA P ⟨fun d => decide (d < m), [], [], []⟩ c (initSt args) args.length (DoneF P fn rs)) : CallF P K args rs := by
  intro w vs M F hF hargs hnd hM
  have hn : ∀ d, decide (d < m) = true → d < fn.ntmps := fun d hd => by rw [hm]; exact of_decide_eq_true hd
  obtain ⟨Ls, e1, e2, eM, e4⟩ := hargs.split
  refine calls_of_wp hf hb ?_
  have htmp : ∀ t, tmp { tmps := vs.toArray ++ Array.replicate (fn.ntmps - vs.toArray.size) undef, defers := [] } t = vs.getD t undef := by
    intro t
    unfold tmp
    simp only [Array.getD_eq_getD_getElem?, List.getD_eq_getElem?_getD, Array.getElem?_append, List.size_toArray, List.getElem?_toArray, Array.getElem?_replicate]
    by_cases ht : t < vs.length
    · simp [ht]
    · simp only [ht, if_false]
      rw [List.getElem?_eq_none (by omega)]
      split <;> rfl
  let f : Fr := { w0 := w, M := M, N := ⟨fun d => decide (d < m), [], [], []⟩, H := [], F := F, hF := hF, hK := fun _ h => (List.not_mem_nil h).elim, hR := fun _ h => (List.not_mem_nil h).elim, hS := fun _ h => (List.not_mem_nil h).elim }
  have hL : ∀ t, (Ls.getD t []).Nodup ∧ ∀ g ∈ Ls.getD t [], g ∈ M := by
    intro t
    rw [List.getD_eq_getElem?_getD]
    cases ht : Ls[t]? with
    | none => simp
    | some Lt =>
      have hm := List.mem_of_getElem? ht
      rw [eM] at hnd ⊢
      unfold List.Nodup at hnd
      rw [List.pairwise_flatten] at hnd
      exact ⟨hnd.1 Lt hm, fun g hg => List.mem_flatten.2 ⟨Lt, hm, hg⟩⟩
  have hch : ∀ t, ∃ r : Rho, ∀ ρ : Nat → Rho, ρ t = r → SR F w ρ (initSt args t) (vs.getD t undef) (Ls.getD t []) := by
    intro t
    unfold initSt
    cases ht : args[t]? with
    | none =>
      have hlt : args.length ≤ t := by simpa using ht
      refine ⟨fun _ => undef, fun ρ _ => ?_⟩
      rw [List.getD_eq_getElem?_getD (l := Ls), List.getElem?_eq_none (by omega)]
      simp only [SR, Option.getD_none]
    | some x =>
      have hlt : t < args.length := (List.getElem?_eq_some_iff.1 ht).1
      have hu : vs[t]? = some (vs[t]'(by omega)) := List.getElem?_eq_getElem _
      have hl : Ls[t]? = some (Ls[t]'(by omega)) := List.getElem?_eq_getElem _
      have := (e4 t x _ _ ht hu hl).sr t
      rw [List.getD_eq_getElem?_getD, List.getD_eq_getElem?_getD, hu, hl]
      exact this
  obtain ⟨ρ, hρ⟩ := Classical.axiomOfChoice hch
  have hrep : Rep f (fun i => i < args.length) (initSt args) { tmps := vs.toArray ++ Array.replicate (fn.ntmps - vs.toArray.size) undef, defers := [] } w := by
    refine ⟨ρ, fun t => Ls.getD t [], rfl, fun d hd => ?_, fun q hq => (by cases hq), ⟨rfl, rfl, rfl, Nat.le_refl _, fun _ _ _ => rfl, Nat.le_refl _⟩, fun t => ?_, fun t => (hL t).1, fun t u htu g hg hgu => ?_, fun t g hg => ?_, fun t i hi => ?_, fun t g hg => .inl ((hL t).2 g hg), fun q hq => by cases hq⟩
    · have := hn d hd
      simp
      omega
    · rw [htmp t]; exact hρ t ρ rfl
    · unfold List.Nodup at hnd
      rw [eM, List.pairwise_flatten] at hnd
      rw [List.getD_eq_getElem?_getD] at hg hgu
      cases ht : Ls[t]? with
      | none => simp [ht] at hg
      | some Lt =>
        cases hu : Ls[u]? with
        | none => simp [hu] at hgu
        | some Lu =>
          simp only [ht, hu, Option.getD_some] at hg hgu
          obtain ⟨h1, h2⟩ := List.getElem?_eq_some_iff.1 ht
          obtain ⟨h3, h4⟩ := List.getElem?_eq_some_iff.1 hu
          rcases Nat.lt_or_ge t u with hlt | hge
          · have := List.pairwise_iff_getElem.1 hnd.2 t u h1 h3 hlt
            rw [h2, h4] at this
            exact this g hg g hgu rfl
          · have := List.pairwise_iff_getElem.1 hnd.2 u t h3 h1 (by omega)
            rw [h2, h4] at this
            exact this g hgu g hg rfl
    · have hm := (hL t).2 g hg
      exact ⟨hM g hm, fun hf => (hF g hf).2 hm⟩
    · unfold initSt at hi
      cases ht : args[t]? with
      | none => simp [ht, AV.ids] at hi
      | some x =>
        simp only [ht] at hi
        rw [Arg.av_ids x t i hi]
        exact (List.getElem?_eq_some_iff.1 ht).1
  refine Code.wp_mono (fun e a' w' hq => ?_) (h f _ w rfl (.of hrep))
  obtain ⟨s1, nx', ⟨he, s', rs', hres, hrs⟩, ⟨f', kf, ρ', L', hr⟩⟩ := hq
  have hmine : ∀ g, (g ∈ f'.M ∨ f'.w0.heap.size ≤ g) → g ∈ M ∨ w.heap.size ≤ g := fun g hg => by
    rcases hg with h1 | h1
    · exact kf.M g h1
    · exact .inr (Nat.le_trans kf.keep.size h1)
  have fin : bodyPost P fn (fun e w' => ∃ us, e = .returned (retVal us) ∧ Keep w M w' ∧ VRs (fun g => g < w'.heap.size ∧ (F g ∨ g ∈ M ∨ w.heap.size ≤ g)) w' rs us []) .ret a' w' := by
    obtain ⟨L2, M1, us, hm, hrun, hv⟩ := hr.toM.ress hres
    rw [List.nil_append] at hm
    refine ⟨hr.defers, retVal us, run_results hrun, us, rfl, kf.keep.trans hr.keep (fun g hg hlt => by
      rcases hmine g (.inl hg) with h1 | h1
      · exact h1
      · have : f.w0 = w := rfl
        rw [this] at hlt
        omega), ?_⟩
    rw [← hrs]
    exact hv.erase (fun g hg => ⟨hr.F_lt hg, kf.new g hg⟩) (fun g hg => ⟨(hm.bound g hg).1, .inr (hmine g (hm.mine g hg))⟩)
  rcases he with rfl | rfl
  · exact fin
  · exact fin
end
end Go.Pv
namespace Go.Pv
open Go.RowKit
section
variable {P : Program} {n : NN} {nid : Nat} {st : Nat → AV}
theorem WpA.freezeInC {nx : Nat} {Q : Exit → (Nat → AV) → Nat → Prop} {c : Code} (t x : Nat) {id sz : Nat} {cs ds : List D} (ds' : List D) (ht : firstR c = some t) (hS : n.S = []) (hx : st x = .own id (.pt true (.sl true sz cs :: ds))) (he : D.erases (.sl true sz cs :: ds) = ds') (h : WpA P n c (put st x (.own id (.pt true ds'))) nx Q) : WpA P n c st nx Q := by
  subst he
  exact WpA.freezeIn x hS hx h
end
end Go.Pv
namespace Go.Proofs.YtneomlnhlpkbjaaGreat
set_option maxHeartbeats 20000000
open Go.Pv
open Go.ChangeShapes Go.WideShapes Go.ChangeAt Go.RowKit
attribute [local irreducible] RunU WpA Step CallG CallNG Done DoneN DoneF CallF StepX
instance fnOk9 : FnOk Tryz.prog 9 := ⟨_, Tryz.func9, rfl, by decide⟩
instance fnOk23 : FnOk Tryz.prog 23 := ⟨_, Tryz.func23, rfl, by decide⟩
set_option maxRecDepth 100000 in
theorem drawBV_ex {l : List Int} (hb : By l) : ∃ (w : List Int) (E : List (List Int)) (v : Int), Gs w E ∧ CallA Tryz.prog 9 [aBy l] [rGr w E, rI v] [] := by
  obtain ⟨s, hs, hF⟩ := fromG_ex hb
  obtain ⟨q, s0, d0⟩ := drP_ex hb hs [8, 12, 40] (by simp)
  have hq : 1 ≤ q ∧ q ≤ 40 := by
    obtain ⟨i, hi, e⟩ := d0.1
    match i, hi with
    | 0, _ => rw [e]; decide
    | 1, _ => rw [e]; decide
    | 2, _ => rw [e]; decide
  obtain ⟨w, E, s1, hg, hs1, hA⟩ := drawAny_ex hb d0.2.1 q hq
  obtain ⟨x, s2, d2⟩ := dr1_ex hb hs1 24
  obtain ⟨v, s3, d3⟩ := dr1_ex hb d2.2.1 ((w.length : Int) + x / 23)
  have hx : 0 ≤ x ∧ x < 24 := ⟨d2.1.1, d2.1.2.2 (by omega)⟩
  have hw := hg.lw
  refine ⟨w, E, v, hg, ?_⟩
  have h0 := d0.2.2
  have h2 := d2.2.2
  have h3 := d3.2.2
  clear hg hb d0 d2 d3 hs hs1
  refine callA_of _ Tryz.func9 rfl Tryz.ntmps9 solid_any ?_
  repeat' (first | refine Two.mk (fun _ => ?_) (fun _ => ?_) | (guard_target =~ IsW; first | refine WpA.rerootC 13 4 9 rfl rfl rfl rfl ?_) | (guard_target =~ AtN 7; first | refine RunU.cons (step_callS (hF) (.sh .nil) (.sh (by first | exact .lit rfl rfl | exact .c rfl) .nil) rfl) ?_) | (guard_target =~ AtN 11; first | refine RunU.cons (step_call_ioS1 (h0) io_any (.mv give_any .nil) (.mv .nil) (by exact rfl) (by exact rfl) rfl) ?_) | (guard_target =~ AtN 12; first | refine RunU.cons (step_call_ioSV (hA) io_any (.sh .nil) (.sh (by first | exact .lit rfl rfl | exact .c rfl) .nil) (by exact rfl) (by exact rfl) rfl) ?_) | (guard_target =~ AtN 19; first | refine RunU.cons (step_call_ioS1 (h2) io_any (.sh .nil) (.sh (by first | exact .lit rfl rfl | exact .c rfl) .nil) (by exact rfl) (by exact rfl) rfl) ?_) | (guard_target =~ AtN 22; first | refine RunU.cons (step_call_ioS1 (h3) io_any (.sh .nil) (.sh (by first | exact .lit rfl rfl | exact .c rfl) .nil) (by exact rfl) (by exact rfl) rfl) ?_) | refine goA ?_ | (refine neA ?_; first | refine nxA ?_ | refine Done.ret (.cell inferInstance rfl rfl (.one res_any .nil)) (.sh .nil) ?_ rfl) | fail)
  all_goals first | rfl | (exfalso; omega)
abbrev rGrF (w : List Int) (E : List (List Int)) : V := .agg [.sl false 1 (ints w), .sl false 1 (LLs E)]
theorem rGr_erase (w : List Int) (E : List (List Int)) (i k : Int) : [rGr w E, rI i, rI k].map V.erase = [rGrF w E, rI i, rI k] := by
  show [V.agg (D.erases [D.sl true 1 (ints w), D.sl true 1 (LL E)]), V.one (D.lit (.int .i64 i)), V.one (D.lit (.int .i64 k))] = _
  simp only [D.erases, D.erase, erases_LL, erases_ints]
theorem rGrF_erase (w : List Int) (E : List (List Int)) (i k : Int) : List.map V.erase [V.agg (D.over [D.sl true 1 [], D.sl true 1 []] 0 [D.sl false 1 (ints w), D.sl false 1 (LLs E)]), V.one (D.lit (.int .i64 i)), V.one (D.lit (.int .i64 k))] = [rGrF w E, rI i, rI k] := by
  show [V.agg (D.erases [D.sl false 1 (ints w), D.sl false 1 (LLs E)]), V.one (D.lit (.int .i64 i)), V.one (D.lit (.int .i64 k))] = _
  simp only [D.erases, D.erase, erases_LLs, erases_ints]
set_option maxRecDepth 100000 in
theorem drawBE_ex {l : List Int} (hb : By l) : ∃ (w : List Int) (E : List (List Int)) (i k : Int), Gs w E ∧ CallF Tryz.prog 23 [aBy l] [rGrF w E, rI i, rI k] := by
  obtain ⟨s, hs, hF⟩ := fromG_ex hb
  obtain ⟨w, E, s1, hg, hs1, hA⟩ := drawAny_ex hb hs 12 (by omega)
  have hw := hg.lw
  have hE := hg.le
  by_cases hE0 : E.length = 0
  · obtain ⟨i, s2, d2⟩ := dr1_ex hb hs1 (w.length : Int)
    obtain ⟨k, s3, d3⟩ := dr1_ex hb d2.2.1 ((w.length : Int) + 1)
    have h2 := d2.2.2
    have h3 := d3.2.2
    refine ⟨w, E, i, k, hg, ?_⟩
    clear hg hb d2 d3 hs hs1
    refine callF_of _ Tryz.func23 rfl Tryz.ntmps23 rfl ?_
    repeat' (first | refine Two.mk (fun _ => ?_) (fun _ => ?_) | (guard_target =~ IsW; first | refine WpA.rerootC 59 5 11 rfl rfl rfl rfl ?_) | (guard_target =~ AtN 10; first | refine RunU.cons (step_callS (hF) (.sh .nil) (.sh (by first | exact .lit rfl rfl | exact .c rfl) .nil) rfl) ?_) | (guard_target =~ AtN 12; first | refine RunU.cons (step_call_ioSV (hA) io_any (.sh .nil) (.sh (by first | exact .lit rfl rfl | exact .c rfl) .nil) (by exact rfl) (by exact rfl) rfl) ?_) | (guard_target =~ AtN 62; first | refine RunU.cons (step_call_ioS1 (h2) io_any (.sh .nil) (.sh (by first | exact .lit rfl rfl | exact .c rfl) .nil) (by exact rfl) (by exact rfl) rfl) ?_) | (guard_target =~ AtN 66; first | refine RunU.cons (step_call_ioS1 (h3) io_any (.sh .nil) (.sh (by first | exact .lit rfl rfl | exact .c rfl) .nil) (by exact rfl) (by exact rfl) rfl) ?_) | refine goA ?_ | (guard_target =~ IsG; first | refine psA ?_ | (guard_target =~ AtS 10; first | refine RunU.doit rfl rfl (step_callS (hF) (.sh .nil) (.sh (by first | exact .lit rfl rfl | exact .c rfl) .nil) rfl) ?_) | (guard_target =~ AtS 12; first | refine RunU.doit rfl rfl (step_call_ioSV (hA) io_any (.sh .nil) (.sh (by first | exact .lit rfl rfl | exact .c rfl) .nil) (by exact rfl) (by exact rfl) rfl) ?_) | (guard_target =~ AtS 62; first | refine RunU.doit rfl rfl (step_call_ioS1 (h2) io_any (.sh .nil) (.sh (by first | exact .lit rfl rfl | exact .c rfl) .nil) (by exact rfl) (by exact rfl) rfl) ?_) | (guard_target =~ AtS 66; first | refine RunU.doit rfl rfl (step_call_ioS1 (h3) io_any (.sh .nil) (.sh (by first | exact .lit rfl rfl | exact .c rfl) .nil) (by exact rfl) (by exact rfl) rfl) ?_) | refine gdA ?_) | (refine neA ?_; first | refine nxA ?_ | refine DoneF.ret (.cell inferInstance rfl rfl (.one res_any (.one res_any .nil))) rfl | refine DoneF.ret (.cell inferInstance rfl rfl (.one res_any (.one res_any .nil))) ?_ | refine DoneF.normal (.cell inferInstance rfl rfl (.one res_any (.one res_any .nil))) rfl | refine DoneF.normal (.cell inferInstance rfl rfl (.one res_any (.one res_any .nil))) ?_) | fail)
    all_goals first | exact rGr_erase w E _ _ | exact rGrF_erase w E _ _ | rfl | (exfalso; omega)
  · have hr0 : (E.getD (0 * 1) []).length = 2 := hg.l2 _ (by rw [List.getD_eq_getElem?_getD, List.getElem?_eq_getElem (by omega)]; exact List.getElem_mem _)
    obtain ⟨x, s2, d2⟩ := dr1_ex hb hs1 4
    by_cases hx : 0 < x
    · obtain ⟨p, s3, d3⟩ := dr1_ex hb d2.2.1 (E.length : Int)
      obtain ⟨q, s4, d4⟩ := dr1_ex hb d3.2.1 2
      have hp : 0 ≤ p ∧ p < E.length := ⟨d3.1.1, d3.1.2.2 (by omega)⟩
      have hrp : (E.getD (p.toNat * 1) []).length = 2 := hg.l2 _ (by rw [List.getD_eq_getElem?_getD, List.getElem?_eq_getElem (by omega)]; exact List.getElem_mem _)
      have h2 := d2.2.2
      have h3 := d3.2.2
      have h4 := d4.2.2
      by_cases hq : q = 0
      · refine ⟨w, E, (E.getD (p.toNat * 1) []).getD (1 * 1) 0, (E.getD (p.toNat * 1) []).getD (0 * 1) 0, hg, ?_⟩
        subst hq
        clear hg hb d2 d3 d4 hs hs1
        refine callF_of _ Tryz.func23 rfl Tryz.ntmps23 rfl ?_
        repeat' (first | refine Two.mk (fun _ => ?_) (fun _ => ?_) | (guard_target =~ IsW; first | refine WpA.freezeInC 30 6 [.sl false 1 (ints w), .sl false 1 (LLs E)] rfl rfl rfl (by show D.erases [D.sl true 1 (ints w), D.sl true 1 (LL E)] = _; simp only [D.erases, D.erase, erases_LL, erases_ints]) ?_) | (guard_target =~ AtN 10; first | refine RunU.cons (step_callS (hF) (.sh .nil) (.sh (by first | exact .lit rfl rfl | exact .c rfl) .nil) rfl) ?_) | (guard_target =~ AtN 12; first | refine RunU.cons (step_call_ioSV (hA) io_any (.sh .nil) (.sh (by first | exact .lit rfl rfl | exact .c rfl) .nil) (by exact rfl) (by exact rfl) rfl) ?_) | (guard_target =~ AtN 27; first | refine RunU.cons (step_call_ioS1 (h2) io_any (.sh .nil) (.sh (by first | exact .lit rfl rfl | exact .c rfl) .nil) (by exact rfl) (by exact rfl) rfl) ?_) | (guard_target =~ AtN 36; first | refine RunU.cons (step_call_ioS1 (h3) io_any (.sh .nil) (.sh (by first | exact .lit rfl rfl | exact .c rfl) .nil) (by exact rfl) (by exact rfl) rfl) ?_) | (guard_target =~ AtN 40; first | refine RunU.cons (step_call_ioS1 (h4) io_any (.sh .nil) (.sh (by first | exact .lit rfl rfl | exact .c rfl) .nil) (by exact rfl) (by exact rfl) rfl) ?_) | refine goA ?_ | (guard_target =~ IsG; first | refine psA ?_ | (guard_target =~ AtS 10; first | refine RunU.doit rfl rfl (step_callS (hF) (.sh .nil) (.sh (by first | exact .lit rfl rfl | exact .c rfl) .nil) rfl) ?_) | (guard_target =~ AtS 12; first | refine RunU.doit rfl rfl (step_call_ioSV (hA) io_any (.sh .nil) (.sh (by first | exact .lit rfl rfl | exact .c rfl) .nil) (by exact rfl) (by exact rfl) rfl) ?_) | (guard_target =~ AtS 27; first | refine RunU.doit rfl rfl (step_call_ioS1 (h2) io_any (.sh .nil) (.sh (by first | exact .lit rfl rfl | exact .c rfl) .nil) (by exact rfl) (by exact rfl) rfl) ?_) | (guard_target =~ AtS 36; first | refine RunU.doit rfl rfl (step_call_ioS1 (h3) io_any (.sh .nil) (.sh (by first | exact .lit rfl rfl | exact .c rfl) .nil) (by exact rfl) (by exact rfl) rfl) ?_) | (guard_target =~ AtS 40; first | refine RunU.doit rfl rfl (step_call_ioS1 (h4) io_any (.sh .nil) (.sh (by first | exact .lit rfl rfl | exact .c rfl) .nil) (by exact rfl) (by exact rfl) rfl) ?_) | refine gdA ?_) | (refine neA ?_; first | refine nxA ?_ | refine DoneF.ret (.cell inferInstance rfl rfl (.one res_any (.one res_any .nil))) rfl | refine DoneF.ret (.cell inferInstance rfl rfl (.one res_any (.one res_any .nil))) ?_ | refine DoneF.normal (.cell inferInstance rfl rfl (.one res_any (.one res_any .nil))) rfl | refine DoneF.normal (.cell inferInstance rfl rfl (.one res_any (.one res_any .nil))) ?_) | fail)
        all_goals first | exact rGr_erase w E _ _ | exact rGrF_erase w E _ _ | rfl | (exfalso; omega)
      · refine ⟨w, E, (E.getD (p.toNat * 1) []).getD (0 * 1) 0, (E.getD (p.toNat * 1) []).getD (1 * 1) 0, hg, ?_⟩
        clear hg hb d2 d3 d4 hs hs1
        refine callF_of _ Tryz.func23 rfl Tryz.ntmps23 rfl ?_
        repeat' (first | refine Two.mk (fun _ => ?_) (fun _ => ?_) | (guard_target =~ IsW; first | refine WpA.freezeInC 30 6 [.sl false 1 (ints w), .sl false 1 (LLs E)] rfl rfl rfl (by show D.erases [D.sl true 1 (ints w), D.sl true 1 (LL E)] = _; simp only [D.erases, D.erase, erases_LL, erases_ints]) ?_) | (guard_target =~ AtN 10; first | refine RunU.cons (step_callS (hF) (.sh .nil) (.sh (by first | exact .lit rfl rfl | exact .c rfl) .nil) rfl) ?_) | (guard_target =~ AtN 12; first | refine RunU.cons (step_call_ioSV (hA) io_any (.sh .nil) (.sh (by first | exact .lit rfl rfl | exact .c rfl) .nil) (by exact rfl) (by exact rfl) rfl) ?_) | (guard_target =~ AtN 27; first | refine RunU.cons (step_call_ioS1 (h2) io_any (.sh .nil) (.sh (by first | exact .lit rfl rfl | exact .c rfl) .nil) (by exact rfl) (by exact rfl) rfl) ?_) | (guard_target =~ AtN 36; first | refine RunU.cons (step_call_ioS1 (h3) io_any (.sh .nil) (.sh (by first | exact .lit rfl rfl | exact .c rfl) .nil) (by exact rfl) (by exact rfl) rfl) ?_) | (guard_target =~ AtN 40; first | refine RunU.cons (step_call_ioS1 (h4) io_any (.sh .nil) (.sh (by first | exact .lit rfl rfl | exact .c rfl) .nil) (by exact rfl) (by exact rfl) rfl) ?_) | refine goA ?_ | (guard_target =~ IsG; first | refine psA ?_ | (guard_target =~ AtS 10; first | refine RunU.doit rfl rfl (step_callS (hF) (.sh .nil) (.sh (by first | exact .lit rfl rfl | exact .c rfl) .nil) rfl) ?_) | (guard_target =~ AtS 12; first | refine RunU.doit rfl rfl (step_call_ioSV (hA) io_any (.sh .nil) (.sh (by first | exact .lit rfl rfl | exact .c rfl) .nil) (by exact rfl) (by exact rfl) rfl) ?_) | (guard_target =~ AtS 27; first | refine RunU.doit rfl rfl (step_call_ioS1 (h2) io_any (.sh .nil) (.sh (by first | exact .lit rfl rfl | exact .c rfl) .nil) (by exact rfl) (by exact rfl) rfl) ?_) | (guard_target =~ AtS 36; first | refine RunU.doit rfl rfl (step_call_ioS1 (h3) io_any (.sh .nil) (.sh (by first | exact .lit rfl rfl | exact .c rfl) .nil) (by exact rfl) (by exact rfl) rfl) ?_) | (guard_target =~ AtS 40; first | refine RunU.doit rfl rfl (step_call_ioS1 (h4) io_any (.sh .nil) (.sh (by first | exact .lit rfl rfl | exact .c rfl) .nil) (by exact rfl) (by exact rfl) rfl) ?_) | refine gdA ?_) | (refine neA ?_; first | refine nxA ?_ | refine DoneF.ret (.cell inferInstance rfl rfl (.one res_any (.one res_any .nil))) rfl | refine DoneF.ret (.cell inferInstance rfl rfl (.one res_any (.one res_any .nil))) ?_ | refine DoneF.normal (.cell inferInstance rfl rfl (.one res_any (.one res_any .nil))) rfl | refine DoneF.normal (.cell inferInstance rfl rfl (.one res_any (.one res_any .nil))) ?_) | fail)
        all_goals first | exact rGr_erase w E _ _ | exact rGrF_erase w E _ _ | rfl | (exfalso; omega)
    · obtain ⟨i, s3, d3⟩ := dr1_ex hb d2.2.1 (w.length : Int)
      obtain ⟨k, s4, d4⟩ := dr1_ex hb d3.2.1 ((w.length : Int) + 1)
      have h2 := d2.2.2
      have h3 := d3.2.2
      have h4 := d4.2.2
      refine ⟨w, E, i, k, hg, ?_⟩
      clear hg hb d2 d3 d4 hs hs1
      refine callF_of _ Tryz.func23 rfl Tryz.ntmps23 rfl ?_
      repeat' (first | refine Two.mk (fun _ => ?_) (fun _ => ?_) | (guard_target =~ IsW; first | refine WpA.rerootC 59 5 11 rfl rfl rfl rfl ?_) | (guard_target =~ AtN 10; first | refine RunU.cons (step_callS (hF) (.sh .nil) (.sh (by first | exact .lit rfl rfl | exact .c rfl) .nil) rfl) ?_) | (guard_target =~ AtN 12; first | refine RunU.cons (step_call_ioSV (hA) io_any (.sh .nil) (.sh (by first | exact .lit rfl rfl | exact .c rfl) .nil) (by exact rfl) (by exact rfl) rfl) ?_) | (guard_target =~ AtN 27; first | refine RunU.cons (step_call_ioS1 (h2) io_any (.sh .nil) (.sh (by first | exact .lit rfl rfl | exact .c rfl) .nil) (by exact rfl) (by exact rfl) rfl) ?_) | (guard_target =~ AtN 62; first | refine RunU.cons (step_call_ioS1 (h3) io_any (.sh .nil) (.sh (by first | exact .lit rfl rfl | exact .c rfl) .nil) (by exact rfl) (by exact rfl) rfl) ?_) | (guard_target =~ AtN 66; first | refine RunU.cons (step_call_ioS1 (h4) io_any (.sh .nil) (.sh (by first | exact .lit rfl rfl | exact .c rfl) .nil) (by exact rfl) (by exact rfl) rfl) ?_) | refine goA ?_ | (guard_target =~ IsG; first | refine psA ?_ | (guard_target =~ AtS 10; first | refine RunU.doit rfl rfl (step_callS (hF) (.sh .nil) (.sh (by first | exact .lit rfl rfl | exact .c rfl) .nil) rfl) ?_) | (guard_target =~ AtS 12; first | refine RunU.doit rfl rfl (step_call_ioSV (hA) io_any (.sh .nil) (.sh (by first | exact .lit rfl rfl | exact .c rfl) .nil) (by exact rfl) (by exact rfl) rfl) ?_) | (guard_target =~ AtS 27; first | refine RunU.doit rfl rfl (step_call_ioS1 (h2) io_any (.sh .nil) (.sh (by first | exact .lit rfl rfl | exact .c rfl) .nil) (by exact rfl) (by exact rfl) rfl) ?_) | (guard_target =~ AtS 62; first | refine RunU.doit rfl rfl (step_call_ioS1 (h3) io_any (.sh .nil) (.sh (by first | exact .lit rfl rfl | exact .c rfl) .nil) (by exact rfl) (by exact rfl) rfl) ?_) | (guard_target =~ AtS 66; first | refine RunU.doit rfl rfl (step_call_ioS1 (h4) io_any (.sh .nil) (.sh (by first | exact .lit rfl rfl | exact .c rfl) .nil) (by exact rfl) (by exact rfl) rfl) ?_) | refine gdA ?_) | (refine neA ?_; first | refine nxA ?_ | refine DoneF.ret (.cell inferInstance rfl rfl (.one res_any (.one res_any .nil))) rfl | refine DoneF.ret (.cell inferInstance rfl rfl (.one res_any (.one res_any .nil))) ?_ | refine DoneF.normal (.cell inferInstance rfl rfl (.one res_any (.one res_any .nil))) rfl | refine DoneF.normal (.cell inferInstance rfl rfl (.one res_any (.one res_any .nil))) ?_) | fail)
      all_goals first | exact rGr_erase w E _ _ | exact rGrF_erase w E _ _ | rfl | (exfalso; omega)
end Go.Proofs.YtneomlnhlpkbjaaGreat
