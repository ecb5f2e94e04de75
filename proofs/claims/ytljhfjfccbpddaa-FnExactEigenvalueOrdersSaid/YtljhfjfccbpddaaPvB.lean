/- What a frame's slots hold, as data trees and names of their parts, and how one operation changes that. No condition. -/
import Derived.Test.YtljhfjfccbpddaaPvA
namespace Go.Pv
set_option linter.unusedVariables false
set_option linter.unusedSimpArgs false
open Go.RowKit

/-- What a slot holds: a copyable datum; the root of an owned one, with a number; an owned one without a number (a part of a tuple or an aggregate); a slice that is a part of the root x; a slice of such a part; an address in such a part; an address in memory that nobody writes; an aggregate; a tuple; nothing known. -/
inductive AV where
  | c (d : D)
  | own (id : Nat) (d : D)
  | raw (d : D)
  | als (x id : Nat) (path : List Nat)
  | sub (x id : Nat) (path : List Nat) (sz lo n : Nat)
  | ptr (x id : Nat) (path : List Nat) (off : Nat)
  | sptr (cs : List D) (off : Nat)
  | agg (l : List AV)
  | tup (l : List AV)
  | clo (g : FuncId) (l : List AV)
  | tupn (id : Nat) (l : List AV)
  | tupr (x id : Nat) (l : List AV)
  | dead

mutual
def AV.ids : AV → List Nat
  | .own i _ | .als _ i _ | .sub _ i _ _ _ _ | .ptr _ i _ _ => [i]
  | .agg l | .tup l | .clo _ l => AV.idss l
  | .tupn i l | .tupr _ i l => i :: AV.idss l
  | _ => []
def AV.idss : List AV → List Nat
  | [] => []
  | a :: l => a.ids ++ AV.idss l
end

def baseOf : Value → Option Addr
  | .slice a _ _ => a
  | .pointer a => a
  | _ => none

mutual
def SR (F : Nat → Prop) (w : World) (ρ : Nat → Rho) : AV → Value → List Nat → Prop
  | .c d, v, L => L = [] ∧ ∃ r, RD F w d r v []
  | .own id d, v, L => RD F w d (ρ id) v L
  | .raw d, v, L => ∃ r, RD F w d r v L
  | .als _ id path, v, L => L = [] ∧ v = ρ id path
  | .sub _ id path sz lo n, v, L => L = [] ∧ ∃ a n0 c0 a1 c1, ρ id path = .slice a n0 c0 ∧ v = .slice a1 n c1 ∧ lo + n ≤ n0 ∧ n ≤ c1 ∧ c1 ≤ maxLen ∧ (n ≠ 0 → a.isSome = true ∧ a1 = a.map (·.add (lo * sz)))
  | .ptr _ id path off, v, L => L = [] ∧ ∃ b, baseOf (ρ id path) = some b ∧ v = .pointer (some (b.add off))
  | .sptr cs off, v, L => L = [] ∧ ∃ (b : Addr) (us : List Value) (r : Rho), v = .pointer (some (b.add off)) ∧ F b.block ∧ (∀ (j : Nat) (u : Value), us[j]? = some u → w.cell? (b.add j) = some u) ∧ RDs F w cs 0 r us []
  | .agg l, v, L => ∃ vs, v = .agg vs.toArray ∧ SRs F w ρ l vs L
  | .tup l, v, L => ∃ vs, v = .tuple vs.toArray ∧ SRs F w ρ l vs L
  | .clo g l, v, L => ∃ vs, v = .func (.func g) #[] vs.toArray ∧ SRs F w ρ l vs L
  | .tupn id l, v, L => v = ρ id [] ∧ ∃ vs, v = .tuple vs.toArray ∧ SRs F w ρ l vs L
  | .tupr _ id l, v, L => v = ρ id [] ∧ ∃ vs, v = .tuple vs.toArray ∧ SRs F w ρ l vs L
  | .dead, _, L => L = []
def SRs (F : Nat → Prop) (w : World) (ρ : Nat → Rho) : List AV → List Value → List Nat → Prop
  | [], vs, L => vs = [] ∧ L = []
  | a :: l, vs, L => ∃ v vs' L1 L2, vs = v :: vs' ∧ L = L1 ++ L2 ∧ SR F w ρ a v L1 ∧ SRs F w ρ l vs' L2
end

mutual
theorem SR.same {F F' : Nat → Prop} {w w' : World} {ρ ρ' : Nat → Rho} (hF : ∀ g, F g → F' g) (hs : ∀ g, F g → Same w w' g) :
    ∀ (a : AV) (v : Value) (L : List Nat), SR F w ρ a v L → (∀ g ∈ L, Same w w' g) → (∀ i ∈ a.ids, ρ' i = ρ i) → SR F' w' ρ' a v L
  | .c d, v, L, h, _, _ => by
    simp only [SR] at h ⊢
    obtain ⟨h1, r, h3⟩ := h
    exact ⟨h1, r, RD.same hF hs d r v [] h3 (fun g hg => by simp at hg)⟩
  | .own id d, v, L, h, hL, hi => by
    simp only [SR] at h ⊢
    rw [hi id (by simp [AV.ids])]
    exact RD.same hF hs d _ v L h hL
  | .raw d, v, L, h, hL, _ => by
    simp only [SR] at h ⊢
    obtain ⟨r, h⟩ := h
    exact ⟨r, RD.same hF hs d r v L h hL⟩
  | .als x id p, v, L, h, _, hi => by
    simp only [SR] at h ⊢
    rw [hi id (by simp [AV.ids])]; exact h
  | .sub x id p sz lo n, v, L, h, _, hi => by
    simp only [SR] at h ⊢
    rw [hi id (by simp [AV.ids])]; exact h
  | .ptr x id p o, v, L, h, _, hi => by
    simp only [SR] at h ⊢
    rw [hi id (by simp [AV.ids])]; exact h
  | .sptr cs o, v, L, h, _, _ => by
    simp only [SR] at h ⊢
    obtain ⟨h1, b, us, r, h3, h4, h5, h6⟩ := h
    exact ⟨h1, b, us, r, h3, hF _ h4, fun j u hu => (cell_same (by rw [add_block]; exact hs _ h4)).trans (h5 j u hu), RDs.same hF hs cs 0 r us [] h6 (fun g hg => by simp at hg)⟩
  | .agg l, v, L, h, hL, hi => by
    simp only [SR] at h ⊢
    obtain ⟨vs, h1, h2⟩ := h
    exact ⟨vs, h1, SRs.same hF hs l vs L h2 hL (by simpa only [AV.ids] using hi)⟩
  | .tup l, v, L, h, hL, hi => by
    simp only [SR] at h ⊢
    obtain ⟨vs, h1, h2⟩ := h
    exact ⟨vs, h1, SRs.same hF hs l vs L h2 hL (by simpa only [AV.ids] using hi)⟩
  | .clo g l, v, L, h, hL, hi => by
    simp only [SR] at h ⊢
    obtain ⟨vs, h1, h2⟩ := h
    exact ⟨vs, h1, SRs.same hF hs l vs L h2 hL (by simpa only [AV.ids] using hi)⟩
  | .tupn id l, v, L, h, hL, hi => by
    simp only [SR] at h ⊢
    obtain ⟨h0, vs, h1, h2⟩ := h
    exact ⟨by rw [hi id (by simp [AV.ids])]; exact h0, vs, h1, SRs.same hF hs l vs L h2 hL (fun i h => hi i (by simp [AV.ids, h]))⟩
  | .tupr x id l, v, L, h, hL, hi => by
    simp only [SR] at h ⊢
    obtain ⟨h0, vs, h1, h2⟩ := h
    exact ⟨by rw [hi id (by simp [AV.ids])]; exact h0, vs, h1, SRs.same hF hs l vs L h2 hL (fun i h => hi i (by simp [AV.ids, h]))⟩
  | .dead, v, L, h, _, _ => by simpa only [SR] using h
theorem SRs.same {F F' : Nat → Prop} {w w' : World} {ρ ρ' : Nat → Rho} (hF : ∀ g, F g → F' g) (hs : ∀ g, F g → Same w w' g) :
    ∀ (l : List AV) (vs : List Value) (L : List Nat), SRs F w ρ l vs L → (∀ g ∈ L, Same w w' g) → (∀ i ∈ AV.idss l, ρ' i = ρ i) → SRs F' w' ρ' l vs L
  | [], _, _, h, _, _ => by simpa only [SRs] using h
  | a :: l, vs, L, h, hL, hi => by
    simp only [SRs] at h ⊢
    obtain ⟨v, vs', L1, L2, rfl, rfl, h1, h2⟩ := h
    simp only [AV.idss, List.mem_append] at hi
    exact ⟨v, vs', L1, L2, rfl, rfl, SR.same hF hs a v L1 h1 (fun g hg => hL g (by simp [hg])) (fun i h => hi i (.inl h)), SRs.same hF hs l vs' L2 h2 (fun g hg => hL g (by simp [hg])) (fun i h => hi i (.inr h))⟩
end

/-- w' is w, but for new blocks and for what was written to the blocks M. -/
structure Keep (w : World) (M : List Nat) (w' : World) : Prop where
  os : w'.os = w.os
  tape : w'.tape = w.tape
  output : w'.output = w.output
  size : w.heap.size ≤ w'.heap.size
  block : ∀ g, g < w.heap.size → g ∉ M → Same w w' g
  drawn : w.drawn ≤ w'.drawn

theorem Keep.refl (w : World) : Keep w [] w := ⟨rfl, rfl, rfl, Nat.le_refl _, fun _ _ _ => rfl, Nat.le_refl _⟩
theorem Keep.trans {a b c : World} {M N : List Nat} (h : Keep a M b) (k : Keep b N c) (hN : ∀ g ∈ N, g < a.heap.size → g ∈ M) : Keep a M c :=
  ⟨k.os.trans h.os, k.tape.trans h.tape, k.output.trans h.output, Nat.le_trans h.size k.size, fun g hg hM =>
    (k.block g (Nat.lt_of_lt_of_le hg h.size) (fun hn => hM (hN g hn hg))).trans (h.block g hg hM), Nat.le_trans h.drawn k.drawn⟩
theorem Keep.of_grown {w w' : World} {row : Option Nat} (h : w.grownBy w' row) (hd : w.drawn ≤ w'.drawn) : Keep w row.toList w' :=
  ⟨h.os, h.tape, h.output, h.size, fun g hg hM => h.block g hg (by rintro rfl; simp at hM), hd⟩
theorem Keep.alloc (w : World) (o : Obj) : Keep w [] (w.alloc o) := Keep.of_grown (World.grownBy_alloc w o none) (Nat.le_refl _)
theorem Keep.drew (w : World) : Keep w [] { w with drawn := w.drawn + 1 } := ⟨rfl, rfl, rfl, Nat.le_refl _, fun _ _ _ => rfl, Nat.le_succ _⟩

/-- Which slots may be written; what some slots hold, the names that some roots keep and the rows that some values stand for, as far as a walk may lean on it. -/
structure NN where
  fn : Nat → Bool
  K : List (Nat × Value)
  R : List (Nat × Rho)
  S : List (Value × List Int)
instance : CoeFun NN (fun _ => Nat → Bool) := ⟨NN.fn⟩

/-- A frame: the world in which it was entered, the blocks that were handed to it to write, the slots that may be written, what the others hold that must be found again. -/
structure Fr where
  w0 : World
  M : List Nat
  N : NN
  H : List (Nat × Value)
  /-- The blocks that nobody writes as long as the frame runs, and that its arguments may lie in. -/
  F : Nat → Prop
  hF : ∀ g, F g → g < w0.heap.size ∧ g ∉ M
  /-- The names that some roots keep. -/
  R : List (Nat × Rho) := []
  hK : ∀ q ∈ N.K, q ∈ H
  hR : ∀ q ∈ N.R, q ∈ R
  hS : ∀ q ∈ N.S, ShRow F w0 q.1 1 (q.2.map (.int .i64))

def tmp (a : Act) (t : Nat) : Value := a.tmps.getD t undef

structure RepO (f : Fr) (X : Nat → Prop) (st : Nat → AV) (a : Act) (w : World) (ρ : Nat → Rho) (L : Nat → List Nat) : Prop where
  defers : a.defers = []
  size : ∀ d, f.N d = true → d < a.tmps.size
  hold : ∀ q ∈ f.H, f.N q.1 = false ∧ tmp a q.1 = q.2
  keep : Keep f.w0 f.M w
  slots : ∀ t, SR f.F w ρ (st t) (tmp a t) (L t)
  nodup : ∀ t, (L t).Nodup
  disj : ∀ t u, t ≠ u → ∀ g ∈ L t, g ∉ L u
  bound : ∀ t, ∀ g ∈ L t, g < w.heap.size ∧ ¬ f.F g
  ids : ∀ t, ∀ i ∈ (st t).ids, X i
  mine : ∀ t, ∀ g ∈ L t, g ∈ f.M ∨ f.w0.heap.size ≤ g
  names : ∀ q ∈ f.R, X q.1 ∧ ρ q.1 = q.2

def Rep (f : Fr) (X : Nat → Prop) (st : Nat → AV) (a : Act) (w : World) : Prop := ∃ ρ L, RepO f X st a w ρ L

section
variable {f : Fr} {X : Nat → Prop} {st : Nat → AV} {a : Act} {w : World} {ρ : Nat → Rho} {L : Nat → List Nat}

theorem RepO.F_lt (h : RepO f X st a w ρ L) {g : Nat} (hg : f.F g) : g < w.heap.size := Nat.lt_of_lt_of_le (f.hF g hg).1 h.keep.size

theorem RepO.rows (h : RepO f X st a w ρ L) : ∀ q ∈ f.N.S, ShRow f.F w q.1 1 (q.2.map (.int .i64)) :=
  fun q hq => (f.hS q hq).same (fun _ h => h) fun g hg => h.keep.block g (f.hF g hg).1 (f.hF g hg).2

/-- One step: the slots T change, the blocks Mw (of those slots) are written. -/
theorem RepO.step (h : RepO f X st a w ρ L) (T : Nat → Prop) (Mw : List Nat) (X' : Nat → Prop) (st' : Nat → AV) (a' : Act) (w' : World) (ρ' : Nat → Rho) (L' : Nat → List Nat)
    (hd : a'.defers = a.defers) (hsize : a'.tmps.size = a.tmps.size) (hH : ∀ t, f.N t = false → tmp a' t = tmp a t) (hk : Keep w Mw w') (hM : ∀ g ∈ Mw, ∃ t, T t ∧ g ∈ L t) (hρ : ∀ i, X i → ρ' i = ρ i)
    (hsame : ∀ t, ¬ T t → st' t = st t ∧ tmp a' t = tmp a t ∧ L' t = L t)
    (hnew : ∀ t, T t → SR f.F w' ρ' (st' t) (tmp a' t) (L' t) ∧ (L' t).Nodup ∧ ∀ g ∈ L' t, g < w'.heap.size ∧ ((∃ u, T u ∧ g ∈ L u) ∨ w.heap.size ≤ g))
    (hdisj : ∀ t u, T t → T u → t ≠ u → ∀ g ∈ L' t, g ∉ L' u)
    (hX : ∀ i, X i → X' i) (hids : ∀ t, T t → ∀ i ∈ (st' t).ids, X' i) : RepO f X' st' a' w' ρ' L' := by
  have hF : ∀ g, f.F g → Same w w' g := fun g hg => hk.block g (h.F_lt hg) (fun hm => by
    obtain ⟨t, _, ht⟩ := hM g hm
    exact (h.bound t g ht).2 hg)
  have hL : ∀ t, ¬ T t → ∀ g ∈ L t, Same w w' g := fun t ht g hg => hk.block g (h.bound t g hg).1 (fun hm => by
    obtain ⟨u, hu, hgu⟩ := hM g hm
    exact h.disj t u (by rintro rfl; exact ht hu) g hg hgu)
  refine ⟨hd.trans h.defers, fun d hd => by rw [hsize]; exact h.size d hd, fun q hq => ⟨(h.hold q hq).1, (hH _ (h.hold q hq).1).trans (h.hold q hq).2⟩, h.keep.trans hk (fun g hg hlt => ?_), fun t => ?_, fun t => ?_, fun t u htu g hg hgu => ?_, fun t g hg => ?_, fun t i hi => ?_, fun t g hg => ?_, fun q hq => ⟨hX _ (h.names q hq).1, (hρ _ (h.names q hq).1).trans (h.names q hq).2⟩⟩
  · obtain ⟨t, _, ht⟩ := hM g hg
    rcases h.mine t g ht with hm | hm
    · exact hm
    · omega
  · by_cases ht : T t
    · exact (hnew t ht).1
    · obtain ⟨e1, e2, e3⟩ := hsame t ht
      rw [e1, e2, e3]
      exact SR.same (fun _ h => h) hF _ _ _ (h.slots t) (hL t ht) (fun i hi => hρ i (h.ids t i hi))
  · by_cases ht : T t
    · exact (hnew t ht).2.1
    · rw [(hsame t ht).2.2]; exact h.nodup t
  · by_cases ht : T t <;> by_cases hu : T u
    · exact hdisj t u ht hu htu g hg hgu
    · rw [(hsame u hu).2.2] at hgu
      rcases ((hnew t ht).2.2 g hg).2 with ⟨v, hv, hgv⟩ | hge
      · exact h.disj v u (by rintro rfl; exact hu hv) g hgv hgu
      · have := (h.bound u g hgu).1; omega
    · rw [(hsame t ht).2.2] at hg
      rcases ((hnew u hu).2.2 g hgu).2 with ⟨v, hv, hgv⟩ | hge
      · exact h.disj v t (by rintro rfl; exact ht hv) g hgv hg
      · have := (h.bound t g hg).1; omega
    · rw [(hsame t ht).2.2] at hg
      rw [(hsame u hu).2.2] at hgu
      exact h.disj t u htu g hg hgu
  · by_cases ht : T t
    · refine ⟨((hnew t ht).2.2 g hg).1, fun hf => ?_⟩
      rcases ((hnew t ht).2.2 g hg).2 with ⟨v, hv, hgv⟩ | hge
      · exact (h.bound v g hgv).2 hf
      · have := h.F_lt hf; omega
    · rw [(hsame t ht).2.2] at hg
      exact ⟨Nat.lt_of_lt_of_le (h.bound t g hg).1 hk.size, (h.bound t g hg).2⟩
  · by_cases ht : T t
    · exact hids t ht i hi
    · rw [(hsame t ht).1] at hi
      exact hX i (h.ids t i hi)
  · by_cases ht : T t
    · rcases ((hnew t ht).2.2 g hg).2 with ⟨v, hv, hgv⟩ | hge
      · exact h.mine v g hgv
      · exact .inr (Nat.le_trans h.keep.size hge)
    · rw [(hsame t ht).2.2] at hg
      exact h.mine t g hg

end

def put (st : Nat → AV) (d : Nat) (v : AV) : Nat → AV := fun t => if t = d then v else st t
def puts (st : Nat → AV) : List (Nat × AV) → Nat → AV
  | [] => st
  | (d, v) :: l => puts (put st d v) l

theorem put_same (st : Nat → AV) (d : Nat) (v : AV) : put st d v d = v := by simp [put]
theorem put_other (st : Nat → AV) (d t : Nat) (v : AV) (h : t ≠ d) : put st d v t = st t := by simp [put, h]

theorem tmp_put_same (a : Act) (d : Nat) (v : Value) (h : d < a.tmps.size) : tmp (a.put (some d) v) d = v := by
  simp [tmp, Act.put, Array.getD_eq_getD_getElem?, h]
theorem tmp_put_other (a : Act) (d t : Nat) (v : Value) (h : t ≠ d) : tmp (a.put (some d) v) t = tmp a t := by
  simp [tmp, Act.put, Array.getD_eq_getD_getElem?, Ne.symm h]
theorem put_size (a : Act) (d : Option Nat) (v : Value) : (a.put d v).tmps.size = a.tmps.size := by cases d <;> simp [Act.put]
theorem put_defers (a : Act) (d : Option Nat) (v : Value) : (a.put d v).defers = a.defers := by cases d <;> rfl

theorem hold_put {N : Nat → Bool} {a : Act} {d : Nat} (v : Value) (hd : N d = true) : ∀ t, N t = false → tmp (a.put (some d) v) t = tmp a t :=
  fun t ht => tmp_put_other a d t v (by rintro rfl; rw [hd] at ht; cases ht)

section
variable {f : Fr} {X : Nat → Prop} {st : Nat → AV} {a : Act} {w : World} {ρ : Nat → Rho} {L : Nat → List Nat}

/-- A slot takes something that owns nothing; the world may have new blocks. -/
theorem RepO.put_light (h : RepO f X st a w ρ L) (d : Nat) (hd : f.N d = true) (av : AV) (v : Value) (w' : World) (hk : Keep w [] w')
    (hv : SR f.F w ρ av v []) (hids : ∀ i ∈ av.ids, X i) :
    RepO f X (put st d av) (a.put (some d) v) w' ρ (fun t => if t = d then [] else L t) := by
  refine h.step (fun t => t = d) [] X _ _ w' ρ _ (put_defers _ _ _) (put_size _ _ _) (hold_put _ hd) hk (fun g hg => by simp at hg) (fun _ _ => rfl) (fun t ht => ⟨put_other _ _ _ _ ht, tmp_put_other _ _ _ _ ht, by simp [ht]⟩) (fun t ht => ?_) (fun t u ht hu hne => absurd (ht.trans hu.symm) hne) (fun _ h => h) (fun t ht i hi => ?_)
  · subst ht
    rw [put_same, tmp_put_same _ _ _ (h.size _ hd), if_pos rfl]
    exact ⟨SR.same (fun _ h => h) (fun g hg => hk.block g (h.F_lt hg) (by simp)) av v [] hv (fun g hg => by simp at hg) (fun _ _ => rfl), List.nodup_nil, fun g hg => by simp at hg⟩
  · subst ht; rw [put_same] at hi; exact hids i hi

/-- A slot takes the root of something new. -/
theorem RepO.put_new (h : RepO f X st a w ρ L) (d : Nat) (hd : f.N d = true) (id : Nat) (hid : ¬ X id) (D1 : D) (v : Value) (w' : World) (hk : Keep w [] w') (r : Rho) (L1 : List Nat)
    (hv : RD f.F w' D1 r v L1) (hn : L1.Nodup) (hL : ∀ g ∈ L1, g < w'.heap.size ∧ w.heap.size ≤ g) :
    RepO f (fun i => X i ∨ i = id) (put st d (.own id D1)) (a.put (some d) v) w' (fun i => if i = id then r else ρ i) (fun t => if t = d then L1 else L t) := by
  refine h.step (fun t => t = d) [] _ _ _ w' _ _ (put_defers _ _ _) (put_size _ _ _) (hold_put _ hd) hk (fun g hg => by simp at hg) (fun i hi => by rw [if_neg (by rintro rfl; exact hid hi)]) (fun t ht => ⟨put_other _ _ _ _ ht, tmp_put_other _ _ _ _ ht, by simp [ht]⟩) (fun t ht => ?_) (fun t u ht hu hne => absurd (ht.trans hu.symm) hne) (fun _ h => .inl h) (fun t ht i hi => ?_)
  · subst ht
    rw [put_same, tmp_put_same _ _ _ (h.size _ hd), if_pos rfl]
    refine ⟨?_, hn, fun g hg => ⟨(hL g hg).1, .inr (hL g hg).2⟩⟩
    simp only [SR, if_true]
    exact hv
  · subst ht; rw [put_same] at hi; simp only [AV.ids, List.mem_singleton] at hi; exact .inr hi

theorem RepO.done_light {K : Act → World → Prop} {nid : Nat} (h : RepO f X st a w ρ L) {d : Nat} {av : AV} (hK : ∀ a' w', Rep f (fun i => X i ∨ i = nid) (puts st [(d, av)]) a' w' → K a' w') (hd : f.N d = true) (v : Value) (w' : World) (hk : Keep w [] w')
    (hv : SR f.F w ρ av v []) (hids : ∀ i ∈ av.ids, X i) : K (a.put (some d) v) w' := by
  have k := h.put_light d hd av v w' hk hv hids
  exact hK _ _ ⟨ρ, _, ⟨k.defers, k.size, k.hold, k.keep, k.slots, k.nodup, k.disj, k.bound, fun t i hi => .inl (k.ids t i hi), k.mine, fun q hq => ⟨.inl (k.names q hq).1, (k.names q hq).2⟩⟩⟩
theorem RepO.done_lit {K : Act → World → Prop} {nid : Nat} (h : RepO f X st a w ρ L) {d : Nat} {v : Value} (hK : ∀ a' w', Rep f (fun i => X i ∨ i = nid) (puts st [(d, .c (.lit v))]) a' w' → K a' w') (hd : f.N d = true) (hv : v.oneCell' = true) : K (a.put (some d) v) w :=
  h.done_light hK hd v w (Keep.refl w) (by simp only [SR, RD]; exact ⟨trivial, fun _ => .bool true, trivial, hv, trivial⟩) (by simp [AV.ids])
theorem RepO.done_new {K : Act → World → Prop} (h : RepO f X st a w ρ L) {d : Nat} {id : Nat} {D1 : D} (hK : ∀ a' w', Rep f (fun i => X i ∨ i = id) (puts st [(d, .own id D1)]) a' w' → K a' w') (hd : f.N d = true) (hid : ¬ X id) (v : Value) (w' : World) (hk : Keep w [] w') (r : Rho) (L1 : List Nat)
    (hv : RD f.F w' D1 r v L1) (hn : L1.Nodup) (hL : ∀ g ∈ L1, g < w'.heap.size ∧ w.heap.size ≤ g) : K (a.put (some d) v) w' :=
  hK _ _ ⟨_, _, h.put_new d hd id hid D1 v w' hk r L1 hv hn hL⟩

theorem RepO.weaken (h : RepO f X st a w ρ L) {X' : Nat → Prop} (hX : ∀ i, X i → X' i) : RepO f X' st a w ρ L :=
  ⟨h.defers, h.size, h.hold, h.keep, h.slots, h.nodup, h.disj, h.bound, fun t i hi => hX i (h.ids t i hi), h.mine, fun q hq => ⟨hX _ (h.names q hq).1, (h.names q hq).2⟩⟩

end
end Go.Pv
