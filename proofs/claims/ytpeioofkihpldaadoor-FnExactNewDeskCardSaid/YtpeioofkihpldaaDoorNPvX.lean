/- Calls that write into the parts of an aggregate that they are handed, and leave it with its owner. No condition. -/
import Derived.Test.YtpeioofkihpldaaDoorNPvT
set_option linter.unusedVariables false
set_option linter.unusedSimpArgs false
namespace Go.Pv
open Go.RowKit
section
variable {P : Program} {n : NN} {nid : Nat} {st : Nat → AV} {f : Fr} {X : Nat → Prop} {a : Act} {w : World} {ρ : Nat → Rho} {L : Nat → List Nat} {M : List Nat}
def CallIA (P : Program) (K : FuncId) (ds : List D) (ks rs : List Value) (ds' : List D) : Prop :=
 ∀ (w : World) (us : List Value) (M : List Nat) (F : Nat → Prop) (r : Rho), (∀ g, F g → g < w.heap.size ∧ g ∉ M) → RDs F w ds 0 r us M → M.Nodup → (∀ g ∈ M, g < w.heap.size) →
  Calls P K (.agg us.toArray :: ks).toArray w fun e w' => ∃ r' Lo, e = .returned (retVal rs) ∧ (∀ v ∈ rs, v.oneCell' = true) ∧ Keep w M w' ∧ RDs F w' ds' 0 r' us Lo ∧ Lo.Nodup ∧ ∀ g ∈ Lo, g < w'.heap.size ∧ (g ∈ M ∨ w.heap.size ≤ g)
theorem io_at {K : FuncId} {d d' : D} {k k' : Value} {ds : List D} {j : Nat} (hc : CallA P K [.io d, .sh (.one (.lit k))] [.one (.lit k')] [d']) (hj : ds[j]? = some d) (hk : k.oneCell' = true) {w : World} {us : List Value} {M : List Nat} {F : Nat → Prop} {r : Rho}
  (hF : ∀ g, F g → g < w.heap.size ∧ g ∉ M) (h : RDs F w ds 0 r us M) (hnd : M.Nodup) (hM : ∀ g ∈ M, g < w.heap.size) :
  ∃ u, us[j]? = some u ∧ Calls P K #[u, k] w fun e w' => ∃ r' Lo, e = .returned k' ∧ k'.oneCell' = true ∧ Keep w M w' ∧ RDs F w' (ds.set j d') 0 r' us Lo ∧ Lo.Nodup ∧ ∀ g ∈ Lo, g < w'.heap.size ∧ (g ∈ M ∨ w.heap.size ≤ g) := by
 obtain ⟨u, A, L1, B, hu, rfl, hd, hput⟩ := RDs.at ds 0 r us M h j d hj
 have hndx := hnd
 simp only [List.nodup_append, List.mem_append] at hndx
 refine ⟨u, hu, (hc w [u, k] L1 F (fun g hg => ⟨(hF g hg).1, fun h => (hF g hg).2 (by simp [h])⟩) ?_ hndx.2.1.1 (fun g hg => hM g (by simp [hg]))).mono ?_⟩
 ·simp only [ArgsR, ArgR, VR, RD]
  exact ⟨u, [k], L1, [], rfl, by simp, ⟨_, hd⟩, k, [], [], [], rfl, rfl, ⟨rfl, fun _ => undef, rfl, hk, trivial⟩, rfl, rfl⟩
 ·rintro e w' ⟨us', Lr, Lo, rfl, hkp, hv, ho, hn, hL⟩
  obtain ⟨rfl, rfl, hone⟩ := lits_res [k'] us' Lr hv
  rw [List.nil_append] at hn hL
  have hout : ∃ r', RD (Res true F) w' d' r' u Lo := by
   simp only [OutsR] at ho
   obtain ⟨u0, us0, d1, ds0, r', La, Lb, e1, e2, rfl, k1, us1, k3, e3, k2⟩ := ho
   obtain ⟨rfl, rfl⟩ := List.cons.inj e1
   obtain ⟨rfl, rfl⟩ := List.cons.inj e2
   obtain ⟨k2, rfl⟩ := k2
   exact ⟨r', by simpa using k1⟩
  obtain ⟨r', hout⟩ := hout
  have hsF : ∀ g, F g → Same w w' g := fun g hg => hkp.block g (hF g hg).1 (fun h => (hF g hg).2 (by simp [h]))
  have hsM : ∀ g, g ∈ A ∨ g ∈ B → Same w w' g := fun g hg => hkp.block g (hM g (by rcases hg with h | h <;> simp [h])) (fun h => by
   rcases hg with hg | hg
   ·exact hndx.2.2 g hg g (.inl h) rfl
   ·exact hndx.2.1.2.2 g h g hg rfl)
  have hfin := hput w' d' r' u Lo hsF hsM (RD.same (fun g hg => by cases hg.1) (fun g hg => by cases hg.1) d' r' _ Lo hout (fun _ _ => rfl))
  have hus : us.set j u = us := by
   obtain ⟨hk, rfl⟩ := List.getElem?_eq_some_iff.1 hu
   simp
  rw [hus] at hfin
  refine ⟨_, _, rfl, hone k' (by simp), ⟨hkp.os, hkp.tape, hkp.output, hkp.size, fun g hg hn => hkp.block g hg (fun h => hn (by simp [h])), hkp.drawn⟩, hfin, ?_, fun g hg => ?_⟩
  ·have hfresh : ∀ g ∈ Lo, g ∉ A ∧ g ∉ B := fun g hg => by
    rcases (hL g hg).2 with h | h
    ·exact ⟨fun h' => hndx.2.2 g h' g (.inl h) rfl, fun h' => hndx.2.1.2.2 g h g h' rfl⟩
    ·exact ⟨fun h' => by have := hM g (by simp [h']); omega, fun h' => by have := hM g (by simp [h']); omega⟩
   simp only [List.nodup_append, List.mem_append]
   grind
  ·simp only [List.mem_append] at hg
   rcases hg with hg | hg | hg
   ·exact ⟨Nat.lt_of_lt_of_le (hM g (by simp [hg])) hkp.size, .inl (by simp [hg])⟩
   ·refine ⟨(hL g hg).1, ?_⟩
    rcases (hL g hg).2 with h | h
    ·exact .inl (by simp [h])
    ·exact .inr h
   ·exact ⟨Nat.lt_of_lt_of_le (hM g (by simp [hg])) hkp.size, .inl (by simp [hg])⟩
theorem rds_alloc {F : Nat → Prop} {w : World} {ds : List D} {r : Rho} {us : List Value} {M : List Nat} (o : Obj) (hF : ∀ g, F g → g < w.heap.size ∧ g ∉ M) (h : RDs F w ds 0 r us M) (hM : ∀ g ∈ M, g < w.heap.size) :
  RDs F (w.alloc o) ds 0 r us M ∧ (∀ g, F g → g < (w.alloc o).heap.size ∧ g ∉ M) ∧ ∀ g ∈ M, g < (w.alloc o).heap.size := by
 have hsame : ∀ g, g < w.heap.size → Same w (w.alloc o) g := fun g hg => Below.heap_alloc w _ g hg
 refine ⟨RDs.same (fun _ h => h) (fun g hg => hsame g (hF g hg).1) ds 0 r us M h (fun g hg => hsame g (hM g hg)), fun g hg => ⟨?_, (hF g hg).2⟩, fun g hg => ?_⟩
 ·have := (hF g hg).1; simp; omega
 ·have := hM g hg; simp; omega
theorem keep_alloc {w w' : World} {o : Obj} {M : List Nat} (h : Keep (w.alloc o) M w') : Keep w M w' :=
 ⟨h.os, h.tape, h.output, by have := h.size; simp at this; omega, fun g hg hn => (h.block g (by simp; omega) hn).trans (Below.heap_alloc w _ g hg), h.drawn⟩
theorem fresh_alloc {w w' : World} {o : Obj} {M Lo : List Nat} (h : ∀ g ∈ Lo, g < w'.heap.size ∧ (g ∈ M ∨ (w.alloc o).heap.size ≤ g)) : ∀ g ∈ Lo, g < w'.heap.size ∧ (g ∈ M ∨ w.heap.size ≤ g) := fun g hg => by
 obtain ⟨h1, h2 | h2⟩ := h g hg
 ·exact ⟨h1, .inl h2⟩
 ·exact ⟨h1, .inr (by simp at h2; omega)⟩
theorem one_res {v : Value} (h : v.oneCell' = true) : ∀ u ∈ [v], u.oneCell' = true := by simpa using h
def D.okc : D → Bool
 | .lit _ => true
 | .sl own _ _ => own
 | .pt _ _ => false
 | .hole => false
 | .fn _ _ => false
theorem names_us {F : Nat → Prop} {w : World} {ρ : Nat → Rho} {x id : Nat} {r : Rho} : ∀ (ds : List D) (k : Nat) (us vs : List Value) (L L' : List Nat), ds.all D.okc = true → RDs F w ds k r us L → (∀ π, ρ id π = r π) → SRs F w ρ (cellAVs x id [] k ds) vs L' → vs = us
 | [], k, us, vs, L, L', _, h, _, hv => by
  simp only [RDs] at h
  simp only [cellAVs, SRs] at hv
  rw [h.1, hv.1]
 | d :: ds, k, us, vs, L, L', hok, h, hr, hv => by
  simp only [List.all_cons, Bool.and_eq_true] at hok
  simp only [RDs] at h
  obtain ⟨u, us', L1, L2, rfl, rfl, h1, h2⟩ := h
  simp only [cellAVs, SRs] at hv
  obtain ⟨v, vs', L3, L4, rfl, rfl, h3, h4⟩ := hv
  rw [names_us ds (k + 1) us' vs' L2 L4 hok.2 h2 hr h4]
  congr 1
  cases d with
  | lit u0 =>
   simp only [cellAV, SR, RD] at h3
   simp only [RD] at h1
   obtain ⟨_, r', h3, _⟩ := h3
   rw [h3, h1.1]
  | hole => simp [D.okc] at hok
  | fn g cs => simp [D.okc] at hok
  | pt own cs => simp [D.okc] at hok
  | sl own sz cs =>
   have : own = true := hok.1
   subst this
   simp only [cellAV, SR] at h3
   simp only [RD] at h1
   rw [h3.2, hr]
   simpa [Rho.at] using h1.1.symm
inductive Lits (st : Nat → AV) : List Operand → List Nat → List Value → Prop
 | nil : Lits st [] [] []
 | cons {x v xs rds vs} : Lit st x v → Lits st xs rds vs → Lits st (x :: xs) (rdOf x ++ rds) (v :: vs)
theorem Lits.agree : ∀ {st st' : Nat → AV} {xs : List Operand} {rd : List Nat} {vs : List Value}, Lits st xs rd vs → (∀ s ∈ rd, st' s = st s) → Lits st' xs rd vs
 | _, _, _, _, _, .nil, _ => .nil
 | _, _, _, _, _, .cons h1 h2, hs => .cons (h1.agree fun s hs' => hs s (by simp [hs'])) (Lits.agree h2 fun s hs' => hs s (by simp [hs']))
theorem Lits.eval (h : RepO f X st a w ρ L) : ∀ {xs : List Operand} {rd : List Nat} {vs : List Value}, Lits st xs rd vs → xs.map a.eval = vs
 | _, _, _, .nil => rfl
 | _, _, _, .cons h1 h2 => by rw [List.map_cons, Lit.eval h h1, Lits.eval h h2]
theorem step_call_ia {d0 t x id : Nat} {K : FuncId} {xs : List Operand} {ts : Array TypeId} {ds ds' : List D} {ks rs : List Value} {rd : List Nat} {ty pos aft g} [FnOk P K]
  (hc : CallIA P K ds ks rs ds') (ht : st t = .agg (cellAVs x id [] 0 ds)) (hx : st x = .own id (.pt true ds)) (hok : ds.all D.okc = true) (hks : Lits st xs rd ks) (hne : (d0 == x) = false) (hd : n d0 = true) :
  Step P n ⟨some d0, .call ⟨.value (.func K), (.tmp t :: xs).toArray, ts⟩, ty, pos, aft, g⟩ nid st (t :: x :: rd) [(d0, litAV rs), (x, .own nid (.pt true ds'))] := by
 intro X st' hs hX f a w hn hrep Kk Q hK
 obtain ⟨ρ, L, h⟩ := hrep
 subst hn
 have hne : d0 ≠ x := by simpa using hne
 have ht' := (hs t (by simp)).trans ht
 have hx' := (hs x (by simp)).trans hx
 have hks' := (hks.agree (st' := st') fun s hs' => hs s (by simp [hs'])).eval h
 have h1 := h.slots t
 rw [ht'] at h1
 simp only [SR] at h1
 obtain ⟨vs, ev, h1⟩ := h1
 have h2 := h.slots x
 rw [hx'] at h2
 simp only [SR, RD] at h2
 obtain ⟨e0, g0, us, L1, ety, e1, eL, hb, hrd⟩ := h2
 have hvs : vs = us := names_us ds 0 us vs L1 (L t) hok hrd (fun π => rfl) h1
 subst hvs
 have hnd := h.nodup x
 rw [eL, List.nodup_cons] at hnd
 have hbd : ∀ g ∈ L1, g < w.heap.size ∧ ¬ f.F g := fun g hg => h.bound x g (by rw [eL]; simp [hg])
 refine wp_of_enter (run_call a.eval rfl w) ?_
 have e : (Operand.tmp t :: xs).toArray.map a.eval = (.agg vs.toArray :: ks).toArray := by
  rw [← hks', List.map_toArray, List.map_cons]
  congr 2
 rw [e]
 refine (hc w vs L1 f.F (ρ id) (fun g hg => ⟨h.F_lt hg, fun hm => (hbd g hm).2 hg⟩) hrd hnd.2 (fun g hg => (hbd g hg).1)).mono ?_
 rintro e w' ⟨r', Lo, rfl, hone, hk, hout, hno, hL⟩
 refine ⟨_, rfl, ?_⟩
 have hg0 : g0 < w.heap.size := (h.bound x g0 (by rw [eL]; simp)).1
 have hb' : w'.heap[g0]? = some (.cells vs.toArray ety (0, 0)) := (hk.block g0 hg0 hnd.1).trans hb
 refine hK _ _ ⟨fun i => if i = nid then (fun π => match π with | [] => ρ id [] | j :: q => r' (j :: q)) else ρ i, fun s => if s = x then g0 :: Lo else if s = d0 then [] else L s, ?_⟩
 refine h.step (fun s => s = x ∨ s = d0) L1 _ _ _ w' _ _ (put_defers _ _ _) (put_size _ _ _) (hold_put _ hd) hk (fun g hg => ⟨x, .inl rfl, by rw [eL]; simp [hg]⟩) (fun i hi => by rw [if_neg (by rintro rfl; exact hX hi)]) (fun s hs' => ?_) (fun s hs' => ?_) (fun s u hs' hu hsu g hg hgu => ?_) (fun _ h => .inl h) (fun s hs' i hi => ?_)
 ·simp only [not_or] at hs'
  refine ⟨?_, tmp_put_other _ _ _ _ hs'.2, by simp [hs'.1, hs'.2]⟩
  simp only [puts]; rw [put_other _ _ _ _ hs'.1, put_other _ _ _ _ hs'.2]
 ·by_cases hsx : s = x
  ·subst hsx
   rw [if_pos rfl, tmp_put_other _ _ _ _ (Ne.symm hne)]
   simp only [puts, put_same, SR, if_true, RD]
   refine ⟨⟨e0, g0, vs, Lo, ety, e1, rfl, hb', RDs.rho ds' 0 r' _ vs Lo hout fun j _ => rfl⟩, ?_, fun g hg => ?_⟩
   ·rw [List.nodup_cons]
    refine ⟨fun hg => ?_, hno⟩
    rcases (hL g0 hg).2 with h' | h'
    ·exact hnd.1 h'
    ·omega
   ·rw [List.mem_cons] at hg
    rcases hg with rfl | hg
    ·exact ⟨Nat.lt_of_lt_of_le hg0 hk.size, .inl ⟨s, .inl rfl, by rw [eL]; simp⟩⟩
    ·refine ⟨(hL g hg).1, ?_⟩
     rcases (hL g hg).2 with h' | h'
     ·exact .inl ⟨s, .inl rfl, by rw [eL]; simp [h']⟩
     ·exact .inr h'
  ·have hs0 : s = d0 := hs'.resolve_left hsx
   subst hs0
   rw [if_neg hsx, if_pos rfl, tmp_put_same _ _ _ (h.size _ hd)]
   simp only [puts]
   rw [put_other _ _ _ _ hsx, put_same]
   exact ⟨SR_litAV rs hone, List.nodup_nil, fun g hg => by simp at hg⟩
 ·by_cases hsx : s = x
  ·have hu0 : u ≠ x := fun e => hsu (hsx.trans e.symm)
   have hu' : u = d0 := hu.resolve_left hu0
   rw [if_neg hu0, if_pos hu'] at hgu
   simp at hgu
  ·have hs0 : s = d0 := hs'.resolve_left hsx
   rw [if_neg hsx, if_pos hs0] at hg
   simp at hg
 ·by_cases hsx : s = x
  ·subst hsx
   simp only [puts, put_same, AV.ids, List.mem_singleton] at hi
   exact .inr hi
  ·have hs0 : s = d0 := hs'.resolve_left hsx
   subst hs0
   simp only [puts] at hi
   rw [put_other _ _ _ _ hsx, put_same, litAV_ids] at hi
   simp at hi
theorem WpA.loop_ids2 {c : Code} {nx : Nat} {Q : Exit → (Nat → AV) → Nat → Prop} (slots : Nat → Nat → Nat → List (Nat × AV)) (C : Nat → Prop) (μ : Nat → Nat) (i0 a0 b0 : Nat) (hC : C i0) (h0 : Has st (slots i0 a0 b0))
  (round : ∀ i a b s k, C i → WpA P n c (puts s (slots i a b)) k (Then (fun s' _ => ∃ i', C i' ∧ (∃ a' b', Has s' (slots i' a' b')) ∧ μ i' < μ i) Q)) : WpA P n (.loop c) st nx Q :=
 WpA.loop_slots (ι := Nat × Nat × Nat) (fun p => slots p.1 p.2.1 p.2.2) (fun p => C p.1) (fun p => μ p.1) (i0, a0, b0) hC h0 fun p s k hp =>
  (round p.1 p.2.1 p.2.2 s k hp).mono fun e s' k' q => by
   cases e with
   | normal => obtain ⟨i', q1, ⟨a', b', q2⟩, q3⟩ := q; exact ⟨(i', a', b'), q1, q2, q3⟩
   | _ => exact q
end
end Go.Pv
