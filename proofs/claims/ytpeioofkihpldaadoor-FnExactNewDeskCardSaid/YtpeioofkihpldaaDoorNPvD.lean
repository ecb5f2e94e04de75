/- Steps that store, that lay new memory, and that extend a slice. No condition. -/
import Derived.Test.YtpeioofkihpldaaDoorNPvA
set_option linter.unusedVariables false
set_option linter.unusedSimpArgs false
namespace Go.Pv
open Go.RowKit
class SliceTy (P : Program) (T : TypeId) (sz : outParam Nat) : Prop where
 out : ∃ e i z, P.underlying T = some (.slice e) ∧ P.info? e = some i ∧ i.size = sz ∧ 0 < sz ∧ sz ≤ 16 ∧ i.bytes ≤ 128 ∧ i.zero = some z ∧ z.cells.size = sz
class OneTy (P : Program) (T : TypeId) : Prop where
 out : ∃ d i, P.underlying T = some d ∧ (match d with | .struct _ | .array _ _ => false | _ => true) = true ∧ P.info? T = some i ∧ i.size = 1
class StructTy (P : Program) (T : TypeId) (sz : outParam Nat) : Prop where
 out : ∃ fs i, P.underlying T = some (.struct fs) ∧ P.info? T = some i ∧ i.size = sz
def Rho.shift (ρ : Rho) (i : Nat) : Rho := fun π => match π with
 | [] => ρ []
 | j :: q => ρ ((j + i) :: q)
section
variable {F : Nat → Prop} {w : World}
theorem RDs.shift : ∀ (ds : List D) (k i : Nat) (ρ : Rho) (us : List Value) (L : List Nat), RDs F w ds (k + i) ρ us L → RDs F w ds k (ρ.shift i) us L
 | [], _, _, _, _, _, h => by simpa only [RDs] using h
 | d :: ds, k, i, ρ, us, L, h => by
  simp only [RDs] at h ⊢
  obtain ⟨u, us', L1, L2, rfl, rfl, h1, h2⟩ := h
  exact ⟨u, us', L1, L2, rfl, rfl, h1, RDs.shift ds (k + 1) i ρ us' L2 (by rw [show k + 1 + i = k + i + 1 from by omega]; exact h2)⟩
theorem RDs.unshift : ∀ (ds : List D) (k i : Nat) (ρ : Rho) (us : List Value) (L : List Nat), RDs F w ds k ρ us L → RDs F w ds (k + i) (fun π => match π with | [] => ρ [] | j :: q => ρ ((j - i) :: q)) us L
 | [], _, _, _, _, _, h => by simpa only [RDs] using h
 | d :: ds, k, i, ρ, us, L, h => by
  simp only [RDs] at h ⊢
  obtain ⟨u, us', L1, L2, rfl, rfl, h1, h2⟩ := h
  refine ⟨u, us', L1, L2, rfl, rfl, ?_, ?_⟩
  ·refine RD.rho d (ρ.at k) _ u L1 h1 (fun π => ?_)
   simp [Rho.at]
  ·have := RDs.unshift ds (k + 1) i ρ us' L2 h2
   rw [show k + 1 + i = k + i + 1 from by omega] at this
   exact this
theorem RDs.append : ∀ (ds es : List D) (k : Nat) (ρ : Rho) (us vs : List Value) (L M : List Nat), RDs F w ds k ρ us L → RDs F w es (k + ds.length) ρ vs M → RDs F w (ds ++ es) k ρ (us ++ vs) (L ++ M)
 | [], es, k, ρ, us, vs, L, M, h, h' => by
  simp only [RDs] at h
  obtain ⟨rfl, rfl⟩ := h
  simpa using h'
 | d :: ds, es, k, ρ, us, vs, L, M, h, h' => by
  simp only [RDs, List.cons_append] at h ⊢
  obtain ⟨u, us', L1, L2, rfl, rfl, h1, h2⟩ := h
  refine ⟨u, us' ++ vs, L1, L2 ++ M, by simp, by simp, h1, RDs.append ds es (k + 1) ρ us' vs L2 M h2 ?_⟩
  rw [show k + 1 + ds.length = k + (d :: ds).length from by simp; omega]
  exact h'
theorem RDs.rest : ∀ (i : Nat) (ds : List D) (k : Nat) (ρ : Rho) (us : List Value), RDs F w ds k ρ us [] → RDs F w (ds.drop i) (k + min i ds.length) ρ (us.drop i) []
 | 0, ds, k, ρ, us, h => by simpa using h
 | i + 1, [], k, ρ, us, h => by
  simp only [RDs] at h
  obtain ⟨rfl, _⟩ := h
  simp [RDs]
 | i + 1, d :: ds, k, ρ, us, h => by
  simp only [RDs] at h
  obtain ⟨u, us', L1, L2, rfl, e, h1, h2⟩ := h
  simp only [List.nil_eq, List.append_eq_nil_iff] at e
  obtain ⟨rfl, rfl⟩ := e
  have := RDs.rest i ds (k + 1) ρ us' h2
  simp only [List.drop_succ_cons, List.length_cons]
  rw [show k + min (i + 1) (ds.length + 1) = k + 1 + min i ds.length from by omega]
  exact this
theorem RDs.take : ∀ (i : Nat) (ds : List D) (k : Nat) (ρ : Rho) (us : List Value), RDs F w ds k ρ us [] → RDs F w (ds.take i) k ρ (us.take i) []
 | 0, ds, k, ρ, us, _ => by simp [RDs]
 | i + 1, [], k, ρ, us, h => by
  simp only [RDs] at h
  obtain ⟨rfl, _⟩ := h
  simp [RDs]
 | i + 1, d :: ds, k, ρ, us, h => by
  simp only [RDs] at h
  obtain ⟨u, us', L1, L2, rfl, e, h1, h2⟩ := h
  simp only [List.nil_eq, List.append_eq_nil_iff] at e
  obtain ⟨rfl, rfl⟩ := e
  simp only [List.take_succ_cons, RDs]
  exact ⟨u, us'.take i, [], [], rfl, rfl, h1, RDs.take i ds (k + 1) ρ us' h2⟩
theorem RDs.cut (i m : Nat) (ds : List D) (k : Nat) (ρ : Rho) (us : List Value) (h : RDs F w ds k ρ us []) : ∃ ρ', RDs F w ((ds.drop i).take m) 0 ρ' ((us.drop i).take m) [] := by
 have h1 := RDs.take m _ _ _ _ (RDs.rest i ds k ρ us h)
 have h2 := RDs.shift _ 0 (k + min i ds.length) _ _ _ (by simpa using h1)
 exact ⟨_, h2⟩
theorem ShRow.cut {v : Value} {sz : Nat} {us : List Value} {a : Option Addr} {n c lo m : Nat} {a1 : Option Addr} {c1 : Nat} (h : ShRow F w v sz us) (hv : v = .slice a n c) (hb : lo + m ≤ n) (hmc : m ≤ c1) (hc : c1 ≤ maxLen) (ha : m ≠ 0 → a1 = a.map (·.add (lo * sz))) :
  ShRow F w (.slice a1 m c1) sz ((us.drop (lo * sz)).take (m * sz)) := by
 obtain ⟨a', n', c', e, h1, h2, h3, h4⟩ := h
 rw [hv] at e
 simp only [Value.slice.injEq] at e
 obtain ⟨rfl, rfl, rfl⟩ := e
 have hle : lo * sz + m * sz ≤ n * sz := by rw [← Nat.add_mul]; exact Nat.mul_le_mul_right _ hb
 refine ⟨a1, m, c1, rfl, ?_, hmc, hc, fun hne => ?_⟩
 ·rw [List.length_take, List.length_drop]; omega
 ·have hm0 : m ≠ 0 := by
   rintro rfl
   simp at hne
  have hus : us ≠ [] := by
   rintro rfl
   simp at hne
  obtain ⟨b, rfl, hb1, hb2⟩ := h4 hus
  refine ⟨b.add (lo * sz), by rw [ha hm0]; rfl, by rw [add_block]; exact hb1, fun j u hu => ?_⟩
  rw [List.getElem?_take] at hu
  split at hu
  ·rw [List.getElem?_drop] at hu
   have := hb2 _ u hu
   rw [← this]
   congr 1
   unfold Addr.add
   by_cases e1 : lo * sz = 0 <;> by_cases e2 : j = 0 <;> simp [e1, e2]
   omega
  ·cases hu
end
inductive View (st : Nat → AV) : Operand → List Nat → Nat → List D → Prop
 | sh {t sz cs} : st t = .c (.sl false sz cs) → View st (.tmp t) [t] sz cs
 | root {t id sz cs} : st t = .own id (.sl true sz cs) → View st (.tmp t) [t] sz cs
 | als {t x id path d sz cs} : st t = .als x id path → st x = .own id d → d.nav path = some (.sl true sz cs) → View st (.tmp t) [t, x] sz cs
 | sub {t x id path d sz lo n cs} : st t = .sub x id path sz lo n → st x = .own id d → d.nav path = some (.sl true sz cs) → View st (.tmp t) [t, x] sz ((cs.drop (lo * sz)).take (n * sz))
 | nil {sz} : View st (.const (.slice none 0 0)) [] sz []
section
variable {P : Program} {n : NN} {nid : Nat} {st : Nat → AV} {f : Fr} {X : Nat → Prop} {a : Act} {w : World} {ρ : Nat → Rho} {L : Nat → List Nat}
theorem View.agree {st st' : Nat → AV} {x : Operand} {rd : List Nat} {sz : Nat} {cs : List D} (h : View st x rd sz cs) (hs : ∀ s ∈ rd, st' s = st s) : View st' x rd sz cs := by
 cases h with
 | sh h => exact .sh ((hs _ (by simp)).trans h)
 | root h => exact .root ((hs _ (by simp)).trans h)
 | als h1 h2 h3 => exact .als ((hs _ (by simp)).trans h1) ((hs _ (by simp)).trans h2) h3
 | sub h1 h2 h3 => exact .sub ((hs _ (by simp)).trans h1) ((hs _ (by simp)).trans h2) h3
 | nil => exact .nil
theorem RepO.part (h : RepO f X st a w ρ L) {x id : Nat} {d d1 : D} {path : List Nat} (hx : st x = .own id d) (hn : d.nav path = some d1) :
  ∃ v1 A L1 B, L x = A ++ (L1 ++ B) ∧ RD f.F w d1 ((ρ id).sub path) v1 L1 ∧
   ∀ (w' : World) (d1' : D) (ρ1' : Rho) (L1' : List Nat), (∀ g, f.F g → Same w w' g) → (∀ g, g ∈ A ∨ g ∈ B → Same w w' g) → RD f.F w' d1' ρ1' v1 L1' →
    RD f.F w' (d.put path d1') ((ρ id).set path ρ1') (tmp a x) (A ++ (L1' ++ B)) := by
 have hv := h.slots x
 rw [hx] at hv
 simp only [SR] at hv
 exact RD.focus path d (ρ id) (tmp a x) (L x) hv d1 hn
theorem Rho.sub_nil (ρ : Rho) (path : List Nat) : ρ.sub path [] = ρ path := by simp [Rho.sub]
theorem RepO.live_lt (h : RepO f X st a w ρ L) : ∀ g, f.F g → g < w.heap.size := fun _ hg => h.F_lt hg
theorem RepO.partSl (h : RepO f X st a w ρ L) {x id sz : Nat} {d : D} {cs : List D} {path : List Nat} (hx : st x = .own id d) (hn : d.nav path = some (.sl true sz cs)) :
  ∃ us L0 L1, Row w (ρ id path) sz us L0 ∧ RDs f.F w cs 0 ((ρ id).sub path) us L1 ∧ (∀ g, g ∈ L0 ∨ g ∈ L1 → g ∈ L x) := by
 obtain ⟨v1, A, L1, B, e, h1, _⟩ := h.part hx hn
 simp only [RD] at h1
 obtain ⟨rfl, us, L0, L2, rfl, h2, h3⟩ := h1
 rw [Rho.sub_nil] at h2
 exact ⟨us, L0, L2, h2, h3, fun g hg => by rw [e]; simp; rcases hg with hg | hg <;> simp [hg]⟩
theorem Row.shRow {v : Value} {sz : Nat} {us : List Value} {L0 : List Nat} (h : Row w v sz us L0) (hL : ∀ g ∈ L0, g < w.heap.size) : ShRow (fun g => g < w.heap.size) w v sz us := by
 rcases h with ⟨rfl, rfl, rfl⟩ | ⟨g, o, n, cap, cur, e, h1, h2, h3, h4, h5, h6, h7, rfl⟩
 ·exact ⟨none, 0, 0, rfl, by simp, Nat.le_refl _, Nat.zero_le _, fun h => absurd rfl h⟩
 ·refine ⟨some ⟨g, o, none⟩, n, cap, h1, h3, h4, h5, fun _ => ⟨_, rfl, hL g (by simp), fun j u hu => ?_⟩⟩
  rw [addr_off]
  exact cell_off h2 h7 hu
theorem View.read (h : RepO f X st a w ρ L) {x : Operand} {rd : List Nat} {sz : Nat} {cs : List D} (hv : View st x rd sz cs) :
  ∃ us r, ShRow (fun g => g < w.heap.size) w (a.eval x) sz us ∧ RDs (fun g => g < w.heap.size) w (D.erases cs) 0 r us [] := by
 cases hv with
 | @sh t sz cs ht =>
  have := h.slots t
  rw [ht] at this
  simp only [SR, RD] at this
  obtain ⟨_, r, _, us, h1, h2⟩ := this
  exact ⟨us, r, h1.same h.live_lt (fun _ _ => rfl), RDs.erase h.live_lt cs 0 r us [] h2 (by simp)⟩
 | @root t id sz cs ht =>
  obtain ⟨us, L0, L1, h1, h2, h3⟩ := h.partSl (path := []) ht rfl
  have e : a.eval (.tmp t) = ρ id [] := by
   have := h.slots t
   rw [ht] at this
   simp only [SR, RD] at this
   exact this.1
  rw [e]
  exact ⟨us, _, h1.shRow (fun g hg => (h.bound t g (h3 g (.inl hg))).1), RDs.erase h.live_lt cs 0 _ us L1 h2 (fun g hg => (h.bound t g (h3 g (.inr hg))).1)⟩
 | @als t x id path d sz cs ht hx hn =>
  obtain ⟨us, L0, L1, h1, h2, h3⟩ := h.partSl hx hn
  have e : a.eval (.tmp t) = ρ id path := by
   have := h.slots t
   rw [ht] at this
   simp only [SR] at this
   exact this.2
  rw [e]
  exact ⟨us, _, h1.shRow (fun g hg => (h.bound x g (h3 g (.inl hg))).1), RDs.erase h.live_lt cs 0 _ us L1 h2 (fun g hg => (h.bound x g (h3 g (.inr hg))).1)⟩
 | @sub t x id path d sz lo n cs ht hx hn =>
  obtain ⟨us, L0, L1, h1, h2, h3⟩ := h.partSl hx hn
  have := h.slots t
  rw [ht] at this
  simp only [SR] at this
  obtain ⟨_, a0, n0, c0, a1, c1, e1, e2, e3, e4, e5, e6⟩ := this
  have hsh := h1.shRow (fun g hg => (h.bound x g (h3 g (.inl hg))).1)
  have her := RDs.erase (F' := fun g => g < w.heap.size) h.live_lt cs 0 _ us L1 h2 (fun g hg => (h.bound x g (h3 g (.inr hg))).1)
  obtain ⟨r, hr⟩ := RDs.cut (lo * sz) (n * sz) _ _ _ _ her
  refine ⟨_, r, ?_, by rw [D.erases_eq, List.map_take, List.map_drop, ← D.erases_eq]; exact hr⟩
  change ShRow _ _ (tmp a t) _ _
  rw [e2]
  exact hsh.cut e1 e3 e4 e5 (fun hne => (e6 hne).2)
 | nil => exact ⟨[], fun _ => undef, ⟨none, 0, 0, rfl, by simp, Nat.le_refl _, Nat.zero_le _, fun h => absurd rfl h⟩, by simp [D.erases, RDs]⟩
theorem step_len {d : Nat} {x : Operand} {T : TypeId} {sz sz' : Nat} {cs : List D} {rd : List Nat} {ty pos aft g} [SliceTy P T sz'] (hv : View st x rd sz cs) (m : Nat) (hm : cs.length = m * sz) (hsz : 0 < sz) (hd : n d = true) :
  Step P n ⟨some d, .call ⟨.builtin .len, #[x], #[T]⟩, ty, pos, aft, g⟩ nid st rd [(d, .c (.lit (.int .i64 m)))] := by
 intro X st' hs hX f a w hn hrep K Q hK
 obtain ⟨ρ, L, h⟩ := hrep
 subst hn
 obtain ⟨us, r, ⟨a0, n0, c0, e0, h1, h2, h3, _⟩, h5⟩ := (hv.agree hs).read h
 obtain ⟨e, i, z, t1, _⟩ := (SliceTy.out (P := P) (T := T) (sz := sz'))
 have hl := h5.length
 rw [D.erases_eq, List.length_map, ← h1, hm] at hl
 have en : n0 = m := Nat.eq_of_mul_eq_mul_right hsz hl
 subst en
 refine wV_ (u := .int .i64 n0) (w' := w) ?_ (h.done_lit hK hd rfl)
 simp [execOp, resolve, invoke, builtin, e0, Builtin.len_, run_underlying t1, goInt]
theorem run_index {T : TypeId} {sz : Nat} [ht : SliceTy P T sz] (w : World) (b : Addr) (len cap : Nat) (k : IntKind) (m : Nat) (hm : m < len) :
  (Instr.indexAt T (.slice (some b) len cap) (.int k (m : Int))).run P w = .ok (.pointer (some (b.add (m * sz)))) w := by
 obtain ⟨e, i, z, t1, t2, t3, _⟩ := ht.out
 have : (m : Int) < (len : Int) := by omega
 simp [Instr.indexAt, run_underlying t1, asIntOf, hm, sizeOf, typeInfo, t2, t3]
theorem add_add (b : Addr) (i j : Nat) : (b.add i).add j = b.add (i + j) := by
 unfold Addr.add
 by_cases e1 : i = 0 <;> by_cases e2 : j = 0 <;> simp [e1, e2]
 omega
theorem step_index_sh {d t : Nat} {xi : Operand} {T : TypeId} {sz m : Nat} {k : IntKind} {j : Int} {cs : List D} {ty pos aft g} [SliceTy P T sz] (h : st t = .c (.sl false sz cs)) (hi : Lit st xi (.int k j)) (hj : j = (m : Int)) (hm : m * sz + sz ≤ cs.length) (hd : n d = true) :
  Step P n ⟨some d, .indexAddr T (.tmp t) xi, ty, pos, aft, g⟩ nid st (t :: rdOf xi) [(d, .sptr cs (m * sz))] := by
 intro X st' hs hX f a w hn hrep K Q hK
 obtain ⟨ρ, L, hr⟩ := hrep
 subst hn
 have ht := hr.slots t
 rw [(hs t (by simp)).trans h] at ht
 simp only [SR, RD] at ht
 obtain ⟨_, r, _, us, ⟨a0, n0, c0, e0, h1, h2, h3, h4⟩, h5⟩ := ht
 have ei := Lit.eval hr (hi.agree fun s hs' => hs s (by simp [hs']))
 obtain ⟨e, i, z, t1, t2, t3, t4, _⟩ := (SliceTy.out (P := P) (T := T) (sz := sz))
 have hl := h5.length
 have hne : us ≠ [] := by rintro rfl; simp at hl; omega
 obtain ⟨b, rfl, hb, hc⟩ := h4 hne
 have hlt : m < n0 := by
  have : (m + 1) * sz ≤ n0 * sz := by rw [Nat.add_mul]; omega
  have := Nat.le_of_mul_le_mul_right this t4
  omega
 refine wV_ (u := .pointer (some (b.add (m * sz)))) (w' := w) ?_ (hr.done_light hK hd _ w (Keep.refl w) ?_ (by simp [AV.ids]))
 ·have e1 : a.eval (.tmp t) = _ := e0
  simp only [execOp, e1, ei, hj, Sem.run_bind, run_index w b n0 c0 k m hlt, Result.andThen_ok, Sem.run_pure]
 ·simp only [SR]
  exact ⟨trivial, b, us, r, rfl, hb, hc, h5⟩
theorem baseOf_row {v : Value} {sz : Nat} {us : List Value} {L0 : List Nat} (h : Row w v sz us L0) (hne : us ≠ []) :
  ∃ g o n cap, v = .slice (some ⟨g, o, none⟩) n cap ∧ n * sz = us.length ∧ baseOf v = some ⟨g, o, none⟩ ∧ L0 = [g] ∧ (∀ (j : Nat) (u : Value), us[j]? = some u → w.cell? ⟨g, o + j, none⟩ = some u) ∧ ∀ j, w.frozen? ⟨g, j, none⟩ = false := by
 rcases h with ⟨_, rfl, _⟩ | ⟨g, o, n, cap, cur, e, rfl, h2, h3, h4, h5, h6, h7, rfl⟩
 ·exact absurd rfl hne
 ·refine ⟨g, o, n, cap, rfl, h3, rfl, rfl, fun j u hu => cell_off h2 h7 hu, fun j => ?_⟩
  simp [World.frozen?, h2]
theorem step_index_als {d t x id : Nat} {path : List Nat} {dd : D} {xi : Operand} {T : TypeId} {sz m : Nat} {k : IntKind} {j : Int} {cs : List D} {ty pos aft g} [SliceTy P T sz] (h : st t = .als x id path) (hx : st x = .own id dd) (hn' : dd.nav path = some (.sl true sz cs))
  (hi : Lit st xi (.int k j)) (hj : j = (m : Int)) (hm : m * sz + sz ≤ cs.length) (hd : n d = true) :
  Step P n ⟨some d, .indexAddr T (.tmp t) xi, ty, pos, aft, g⟩ nid st (t :: x :: rdOf xi) [(d, .ptr x id path (m * sz))] := by
 intro X st' hs hX f a w hn hrep K Q hK
 obtain ⟨ρ, L, hr⟩ := hrep
 subst hn
 have ht := hr.slots t
 have hids := hr.ids t
 rw [(hs t (by simp)).trans h] at ht hids
 simp only [SR] at ht
 obtain ⟨us, L0, L1, h1, h5, h6⟩ := hr.partSl ((hs x (by simp)).trans hx) hn'
 have ei := Lit.eval hr (hi.agree fun s hs' => hs s (by simp [hs']))
 obtain ⟨e, i, z, t1, t2, t3, t4, _⟩ := (SliceTy.out (P := P) (T := T) (sz := sz))
 have hl := h5.length
 have hne : us ≠ [] := by rintro rfl; simp at hl; omega
 obtain ⟨g0, o0, n0, c0, e0, h7, h8, _⟩ := baseOf_row h1 hne
 have hlt : m < n0 := by
  have : (m + 1) * sz ≤ n0 * sz := by rw [Nat.add_mul]; omega
  have := Nat.le_of_mul_le_mul_right this t4
  omega
 refine wV_ (u := .pointer (some ((⟨g0, o0, none⟩ : Addr).add (m * sz)))) (w' := w) ?_ (hr.done_light hK hd _ w (Keep.refl w) ?_ (by simpa [AV.ids] using hids))
 ·have e1 : a.eval (.tmp t) = _ := ht.2.trans e0
  simp only [execOp, e1, ei, hj, Sem.run_bind, run_index w _ n0 c0 k m hlt, Result.andThen_ok, Sem.run_pure]
 ·simp only [SR]
  exact ⟨trivial, _, h8, rfl⟩
theorem step_index_root {d t id : Nat} {xi : Operand} {T : TypeId} {sz m : Nat} {k : IntKind} {j : Int} {cs : List D} {ty pos aft g} [SliceTy P T sz] (h : st t = .own id (.sl true sz cs))
  (hi : Lit st xi (.int k j)) (hj : j = (m : Int)) (hm : m * sz + sz ≤ cs.length) (hd : n d = true) :
  Step P n ⟨some d, .indexAddr T (.tmp t) xi, ty, pos, aft, g⟩ nid st (t :: rdOf xi) [(d, .ptr t id [] (m * sz))] := by
 intro X st' hs hX f a w hn hrep K Q hK
 obtain ⟨ρ, L, hr⟩ := hrep
 subst hn
 have ht := hr.slots t
 have hids := hr.ids t
 have hst := (hs t (by simp)).trans h
 rw [hst] at ht hids
 simp only [SR, RD] at ht
 obtain ⟨us, L0, L1, h1, h5, h6⟩ := hr.partSl (path := []) hst rfl
 have ei := Lit.eval hr (hi.agree fun s hs' => hs s (by simp [hs']))
 obtain ⟨e, i, z, t1, t2, t3, t4, _⟩ := (SliceTy.out (P := P) (T := T) (sz := sz))
 have hl := h5.length
 have hne : us ≠ [] := by rintro rfl; simp at hl; omega
 obtain ⟨g0, o0, n0, c0, e0, h7, h8, _⟩ := baseOf_row h1 hne
 have hlt : m < n0 := by
  have : (m + 1) * sz ≤ n0 * sz := by rw [Nat.add_mul]; omega
  have := Nat.le_of_mul_le_mul_right this t4
  omega
 refine wV_ (u := .pointer (some ((⟨g0, o0, none⟩ : Addr).add (m * sz)))) (w' := w) ?_ (hr.done_light hK hd _ w (Keep.refl w) ?_ (by simpa [AV.ids] using hids))
 ·have e1 : a.eval (.tmp t) = _ := ht.1.trans e0
  simp only [execOp, e1, ei, hj, Sem.run_bind, run_index w _ n0 c0 k m hlt, Result.andThen_ok, Sem.run_pure]
 ·simp only [SR]
  exact ⟨trivial, _, h8, rfl⟩
theorem step_index_header {d t x id : Nat} {path : List Nat} {xi : Operand} {T : TypeId} {sz m lo nn : Nat} {k : IntKind} {j : Int} {ty pos aft g} [SliceTy P T sz] (h : st t = .sub x id path sz lo nn)
  (hi : Lit st xi (.int k j)) (hj : j = (m : Int)) (hm : m < nn) (hd : n d = true) :
  Step P n ⟨some d, .indexAddr T (.tmp t) xi, ty, pos, aft, g⟩ nid st (t :: rdOf xi) [(d, .ptr x id path ((lo + m) * sz))] := by
 intro X st' hs hX f a w hn hrep K Q hK
 obtain ⟨ρ, L, hr⟩ := hrep
 subst hn
 have ht := hr.slots t
 have hids := hr.ids t
 rw [(hs t (by simp)).trans h] at ht hids
 simp only [SR] at ht
 obtain ⟨_, a0, n0, c0, a1, c1, f1, f2, f3, f4, f5, f6⟩ := ht
 have ei := Lit.eval hr (hi.agree fun s hs' => hs s (by simp [hs']))
 obtain ⟨f7, f8⟩ := f6 (by omega)
 obtain ⟨b, rfl⟩ := Option.isSome_iff_exists.1 f7
 simp only [Option.map_some] at f8
 refine wV_ (u := .pointer (some (b.add ((lo + m) * sz)))) (w' := w) ?_ (hr.done_light hK hd _ w (Keep.refl w) ?_ (by simpa [AV.ids] using hids))
 ·have e1 : a.eval (.tmp t) = _ := f2
  rw [f8] at e1
  simp only [execOp, e1, ei, hj, Sem.run_bind, run_index w _ nn c1 k m hm, Result.andThen_ok, Sem.run_pure, add_add, ← Nat.add_mul]
 ·simp only [SR]
  exact ⟨trivial, b, by rw [f1]; rfl, rfl⟩
end
end Go.Pv
namespace Go.Pv
open Go.RowKit
def cellAV (x id : Nat) (p : List Nat) : D → AV
 | .lit v => .c (.lit v)
 | .sl true _ _ => .als x id p
 | .pt true _ => .ptr x id p 0
 | .hole => .dead
 | d => .c d
def cellAVs (x id : Nat) (path : List Nat) : Nat → List D → List AV
 | _, [] => []
 | k, d :: ds => cellAV x id (path ++ [k]) d :: cellAVs x id path (k + 1) ds
section
variable {P : Program} {n : NN} {nid : Nat} {st : Nat → AV} {f : Fr} {X : Nat → Prop} {a : Act} {w : World} {ρ : Nat → Rho} {L : Nat → List Nat}
theorem run_load_one {T : TypeId} [ht : OneTy P T] (w : World) (b : Addr) (v : Value) (h : w.cell? b = some v) : (Instr.loadAt T (.pointer (some b))).run P w = .ok v w := by
 obtain ⟨d, i, t1, t2, t3, t4⟩ := ht.out
 cases d <;> simp at t2 <;> simp [Instr.loadAt, Instr.sureAddr, loadVar, isAgg, run_underlying t1, h]
theorem run_load_struct {T : TypeId} {sz : Nat} [ht : StructTy P T sz] (w : World) (b : Addr) (vs : List Value) (hl : vs.length = sz) (h : ∀ j v, vs[j]? = some v → w.cell? (b.add j) = some v) :
  (Instr.loadAt T (.pointer (some b))).run P w = .ok (.agg vs.toArray) w := by
 obtain ⟨fs, i, t1, t2, t3⟩ := ht.out
 have := run_loadCells_list (P := P) w b vs h
 rw [hl] at this
 simp [Instr.loadAt, Instr.sureAddr, loadVar, isAgg, run_underlying t1, sizeOf, typeInfo, t2, t3, this]
theorem add_zero' (b : Addr) : b.add 0 = b := by simp [Addr.add]
theorem addr_row (g j : Nat) : (⟨g, 0, none⟩ : Addr).add j = ⟨g, j, none⟩ := by unfold Addr.add; split <;> simp_all
theorem step_load_sh {d t off : Nat} {T : TypeId} {cs : List D} {c : D} {ty pos aft g} [OneTy P T] (h : st t = .sptr cs off) (hc : cs[off]? = some c) (hd : n d = true) :
  Step P n ⟨some d, .load T (.tmp t), ty, pos, aft, g⟩ nid st [t] [(d, .c c)] := by
 intro X st' hs hX f a w hn hrep K Q hK
 obtain ⟨ρ, L, hr⟩ := hrep
 subst hn
 have ht := hr.slots t
 rw [(hs t (by simp)).trans h] at ht
 simp only [SR] at ht
 obtain ⟨_, b, us, r, e0, hb, hcell, h5⟩ := ht
 obtain ⟨u, A, L1, B, hu, e, h6, _⟩ := RDs.at cs 0 r us [] h5 off c hc
 have e' := e.symm
 simp only [List.append_eq_nil_iff] at e'
 obtain ⟨rfl, rfl, rfl⟩ := e'
 refine wV_ (u := u) (w' := w) ?_ (hr.done_light hK hd _ w (Keep.refl w) (by simp only [SR]; exact ⟨trivial, _, h6⟩) (by simp [AV.ids]))
 have e1 : a.eval (.tmp t) = _ := e0
 simp only [execOp, e1, Sem.run_bind, run_load_one w _ u (hcell off u hu), Result.andThen_ok, Sem.run_pure]
theorem SRs_of_RDs {F : Nat → Prop} {w : World} {ρ : Nat → Rho} : ∀ (ds : List D) (k : Nat) (r : Rho) (us : List Value), RDs F w ds k r us [] → SRs F w ρ (ds.map AV.c) us []
 | [], _, _, _, h => by simpa only [RDs, SRs, List.map_nil] using h
 | d :: ds, k, r, us, h => by
  simp only [RDs] at h
  obtain ⟨u, us', L1, L2, rfl, e, h1, h2⟩ := h
  simp only [List.nil_eq, List.append_eq_nil_iff] at e
  obtain ⟨rfl, rfl⟩ := e
  simp only [List.map_cons, SRs]
  exact ⟨u, us', [], [], rfl, rfl, by simp only [SR]; exact ⟨trivial, _, h1⟩, SRs_of_RDs ds (k + 1) r us' h2⟩
theorem idss_map_c (l : List D) : AV.idss (l.map AV.c) = [] := by
 induction l with
 | nil => rfl
 | cons d l ih => simp [AV.idss, AV.ids, ih]
theorem step_loads_sh {d t off sz : Nat} {T : TypeId} {cs : List D} {ty pos aft g} [StructTy P T sz] (h : st t = .sptr cs off) (hc : off + sz ≤ cs.length) (hd : n d = true) :
  Step P n ⟨some d, .load T (.tmp t), ty, pos, aft, g⟩ nid st [t] [(d, .agg (((cs.drop off).take sz).map AV.c))] := by
 intro X st' hs hX f a w hn hrep K Q hK
 obtain ⟨ρ, L, hr⟩ := hrep
 subst hn
 have ht := hr.slots t
 rw [(hs t (by simp)).trans h] at ht
 simp only [SR] at ht
 obtain ⟨_, b, us, r, e0, hb, hcell, h5⟩ := ht
 obtain ⟨r', h6⟩ := RDs.cut off sz cs 0 r us h5
 have hl := h5.length
 refine wV_ (u := .agg ((us.drop off).take sz).toArray) (w' := w) ?_ (hr.done_light hK hd _ w (Keep.refl w) (by simp only [SR]; exact ⟨_, rfl, SRs_of_RDs _ _ _ _ h6⟩) (by simp only [AV.ids, idss_map_c]; simp))
 have e1 : a.eval (.tmp t) = _ := e0
 simp only [execOp, e1, Sem.run_bind]
 rw [run_load_struct (T := T) w _ ((us.drop off).take sz) (by rw [List.length_take, List.length_drop]; omega) (fun j u hu => ?_)]
 ·rfl
 ·rw [List.getElem?_take] at hu
  split at hu
  ·rw [List.getElem?_drop] at hu
   rw [add_add]
   exact hcell _ u hu
  ·cases hu
theorem RepO.partKids (h : RepO f X st a w ρ L) {x id : Nat} {d d1 : D} {cs : List D} {path : List Nat} (hx : st x = .own id d) (hn : d.nav path = some d1) (hk : d1.kids = some cs) (hne : cs ≠ []) :
  ∃ g o us L1, baseOf (ρ id path) = some ⟨g, o, none⟩ ∧ g ∈ L x ∧ (∀ g' ∈ L1, g' ∈ L x) ∧ RDs f.F w cs 0 ((ρ id).sub path) us L1 ∧ (∀ (j : Nat) (u : Value), us[j]? = some u → w.cell? ⟨g, o + j, none⟩ = some u) ∧ (∀ j, w.frozen? ⟨g, j, none⟩ = false) := by
 obtain ⟨v1, A, L1, B, e, h1, _⟩ := h.part hx hn
 have hsub : ∀ g', g' ∈ L1 → g' ∈ L x := fun g' hg => by rw [e]; simp [hg]
 cases d1 with
 | lit v => simp [D.kids] at hk
 | hole => simp [D.kids] at hk
 | fn g cs => simp [D.kids] at hk
 | sl own sz cs' =>
  cases own
  ·simp [D.kids] at hk
  ·simp only [D.kids, Option.some.injEq] at hk
   subst hk
   simp only [RD] at h1
   obtain ⟨rfl, us, L0, L2, rfl, h2, h3⟩ := h1
   rw [Rho.sub_nil] at h2
   have hus : us ≠ [] := by
    rintro rfl
    exact hne (List.eq_nil_of_length_eq_zero (by simpa using h3.length.symm))
   obtain ⟨g, o, n0, cap, e1, e2, e3, rfl, e5, e6⟩ := baseOf_row h2 hus
   exact ⟨g, o, us, L2, e3, hsub g (by simp), fun g' hg => hsub g' (by simp [hg]), h3, e5, e6⟩
 | pt own cs' =>
  cases own
  ·simp [D.kids] at hk
  ·simp only [D.kids, Option.some.injEq] at hk
   subst hk
   simp only [RD] at h1
   obtain ⟨e0, g, us, L2, ty, rfl, rfl, h2, h3⟩ := h1
   rw [Rho.sub_nil] at e0
   refine ⟨g, 0, us, L2, by rw [← e0]; rfl, hsub g (by simp), fun g' hg => hsub g' (by simp [hg]), h3, fun j u hu => ?_, fun j => by simp [World.frozen?, h2]⟩
   rw [Nat.zero_add, cell_of_row w g j us.toArray ty (0, 0) h2]
   simpa using hu
theorem SR_cellAV {F : Nat → Prop} {w : World} {ρ : Nat → Rho} {x id : Nat} {p : List Nat} {c : D} {r : Rho} {u : Value} {L1 : List Nat} (h : RD F w c r u L1) (hr : r [] = ρ id p) : SR F w ρ (cellAV x id p c) u [] := by
 cases c with
 | lit v => simp only [cellAV, SR]; simp only [RD] at h; exact ⟨trivial, r, by simp only [RD]; exact ⟨h.1, h.2.1, trivial⟩⟩
 | hole => simp only [cellAV, SR]
 | fn g cs =>
  simp only [cellAV, SR]
  simp only [RD] at h
  exact ⟨trivial, r, by simp only [RD]; exact ⟨trivial, h.2⟩⟩
 | sl own sz cs =>
  cases own
  ·simp only [cellAV, SR]
   simp only [RD] at h
   exact ⟨trivial, r, by simp only [RD]; exact ⟨trivial, h.2⟩⟩
  ·simp only [cellAV, SR]
   simp only [RD] at h
   exact ⟨trivial, by rw [← hr]; exact h.1⟩
 | pt own cs =>
  cases own
  ·simp only [cellAV, SR]
   simp only [RD] at h
   exact ⟨trivial, r, by simp only [RD]; exact ⟨trivial, h.2⟩⟩
  ·simp only [cellAV, SR]
   simp only [RD] at h
   obtain ⟨e, g, us, L2, ty, e1, _⟩ := h
   exact ⟨trivial, ⟨g, 0, none⟩, by rw [← hr, ← e, e1]; rfl, by rw [e1]; rfl⟩
theorem cellAV_ids {x id : Nat} {p : List Nat} {c : D} : ∀ i ∈ (cellAV x id p c).ids, i = id := by
 cases c with
 | lit v => simp [cellAV, AV.ids]
 | hole => simp [cellAV, AV.ids]
 | fn g cs => simp [cellAV, AV.ids]
 | sl own sz cs => cases own <;> simp [cellAV, AV.ids]
 | pt own cs => cases own <;> simp [cellAV, AV.ids]
theorem step_load {d t x id off : Nat} {path : List Nat} {T : TypeId} {dd d1 : D} {cs : List D} {c : D} {ty pos aft g} [OneTy P T] (h : st t = .ptr x id path off) (hx : st x = .own id dd) (hn' : dd.nav path = some d1) (hk : d1.kids = some cs) (hc : cs[off]? = some c) (hd : n d = true) :
  Step P n ⟨some d, .load T (.tmp t), ty, pos, aft, g⟩ nid st [t, x] [(d, cellAV x id (path ++ [off]) c)] := by
 intro X st' hs hX f a w hn hrep K Q hK
 obtain ⟨ρ, L, hr⟩ := hrep
 subst hn
 have ht := hr.slots t
 have hids := hr.ids t
 rw [(hs t (by simp)).trans h] at ht hids
 simp only [SR] at ht
 obtain ⟨_, b, hb, e0⟩ := ht
 obtain ⟨g0, o0, us, L1, hb', hg, hL1, h5, h6, _⟩ := hr.partKids ((hs x (by simp)).trans hx) hn' hk (by rintro rfl; simp at hc)
 rw [hb] at hb'
 simp only [Option.some.injEq] at hb'
 subst hb'
 obtain ⟨u, A, M, B, hu, e, h7, _⟩ := RDs.at cs 0 _ us L1 h5 off c hc
 refine wV_ (u := u) (w' := w) ?_ (hr.done_light hK hd _ w (Keep.refl w) (SR_cellAV h7 ?_) (fun i hi => ?_))
 ·have e1 : a.eval (.tmp t) = _ := e0
  rw [addr_off] at e1
  simp only [execOp, e1, Sem.run_bind, run_load_one w _ u (h6 off u hu), Result.andThen_ok, Sem.run_pure]
 ·simp [Rho.at, Rho.sub]
 ·rw [cellAV_ids i hi]; exact hids id (by simp [AV.ids])
theorem SRs_cells {F : Nat → Prop} {w : World} {ρ : Nat → Rho} {x id : Nat} {path : List Nat} : ∀ (ds : List D) (k : Nat) (r : Rho) (us : List Value) (M : List Nat), RDs F w ds k r us M → (∀ j, r [j] = ρ id (path ++ [j])) → SRs F w ρ (cellAVs x id path k ds) us []
 | [], _, _, _, _, h, _ => by simp only [RDs] at h; simp only [cellAVs, SRs]; exact ⟨h.1, trivial⟩
 | d :: ds, k, r, us, M, h, hr => by
  simp only [RDs] at h
  obtain ⟨u, us', L1, L2, rfl, e, h1, h2⟩ := h
  simp only [cellAVs, SRs]
  exact ⟨u, us', [], [], rfl, rfl, SR_cellAV h1 (hr k), SRs_cells ds (k + 1) r us' L2 h2 hr⟩
theorem cellAVs_ids {x id : Nat} {path : List Nat} : ∀ (ds : List D) (k : Nat), ∀ i ∈ AV.idss (cellAVs x id path k ds), i = id
 | [], k, i, h => by simp [cellAVs, AV.idss] at h
 | d :: ds, k, i, h => by
  simp only [cellAVs, AV.idss, List.mem_append] at h
  rcases h with h | h
  ·exact cellAV_ids i h
  ·exact cellAVs_ids ds (k + 1) i h
theorem RDs.part {F : Nat → Prop} {w : World} : ∀ (i : Nat) (ds : List D) (k : Nat) (ρ : Rho) (us : List Value) (M : List Nat), RDs F w ds k ρ us M → i ≤ ds.length → ∃ M', RDs F w (ds.drop i) (k + i) ρ (us.drop i) M'
 | 0, ds, k, ρ, us, M, h, _ => ⟨M, by simpa using h⟩
 | i + 1, [], k, ρ, us, M, _, hi => by simp at hi
 | i + 1, d :: ds, k, ρ, us, M, h, hi => by
  simp only [RDs] at h
  obtain ⟨u, us', L1, L2, rfl, e, h1, h2⟩ := h
  obtain ⟨M', h3⟩ := RDs.part i ds (k + 1) ρ us' L2 h2 (by simpa using hi)
  exact ⟨M', by rw [show k + (i + 1) = k + 1 + i from by omega]; simpa using h3⟩
theorem RDs.takeM {F : Nat → Prop} {w : World} : ∀ (i : Nat) (ds : List D) (k : Nat) (ρ : Rho) (us : List Value) (M : List Nat), RDs F w ds k ρ us M → ∃ M', RDs F w (ds.take i) k ρ (us.take i) M'
 | 0, ds, k, ρ, us, M, _ => ⟨[], by simp [RDs]⟩
 | i + 1, [], k, ρ, us, M, h => by
  simp only [RDs] at h
  obtain ⟨rfl, _⟩ := h
  exact ⟨[], by simp [RDs]⟩
 | i + 1, d :: ds, k, ρ, us, M, h => by
  simp only [RDs] at h
  obtain ⟨u, us', L1, L2, rfl, e, h1, h2⟩ := h
  obtain ⟨M', h3⟩ := RDs.takeM i ds (k + 1) ρ us' L2 h2
  simp only [List.take_succ_cons, RDs]
  exact ⟨L1 ++ M', u, us'.take i, L1, M', rfl, rfl, h1, h3⟩
theorem step_loads {d t x id off sz : Nat} {path : List Nat} {T : TypeId} {dd d1 : D} {cs : List D} {ty pos aft g} [StructTy P T sz] (h : st t = .ptr x id path off) (hx : st x = .own id dd) (hn' : dd.nav path = some d1) (hk : d1.kids = some cs) (hc : off + sz ≤ cs.length) (hz : 0 < sz) (hd : n d = true) :
  Step P n ⟨some d, .load T (.tmp t), ty, pos, aft, g⟩ nid st [t, x] [(d, .agg (cellAVs x id path off ((cs.drop off).take sz)))] := by
 intro X st' hs hX f a w hn hrep K Q hK
 obtain ⟨ρ, L, hr⟩ := hrep
 subst hn
 have ht := hr.slots t
 have hids := hr.ids t
 rw [(hs t (by simp)).trans h] at ht hids
 simp only [SR] at ht
 obtain ⟨_, b, hb, e0⟩ := ht
 obtain ⟨g0, o0, us, L1, hb', hg, hL1, h5, h6, _⟩ := hr.partKids ((hs x (by simp)).trans hx) hn' hk (by rintro rfl; simp at hc; omega)
 rw [hb] at hb'
 simp only [Option.some.injEq] at hb'
 subst hb'
 have hl := h5.length
 obtain ⟨M', h7⟩ := RDs.part off cs 0 _ us L1 h5 (by omega)
 obtain ⟨M2, h8⟩ := RDs.takeM sz _ _ _ _ _ h7
 rw [Nat.zero_add] at h8
 refine wV_ (u := .agg ((us.drop off).take sz).toArray) (w' := w) ?_ (hr.done_light hK hd _ w (Keep.refl w) ?_ (fun i hi => ?_))
 ·have e1 : a.eval (.tmp t) = _ := e0
  simp only [execOp, e1, Sem.run_bind]
  rw [run_load_struct (T := T) w _ ((us.drop off).take sz) (by rw [List.length_take, List.length_drop]; omega) (fun j u hu => ?_)]
  ·rfl
  ·rw [List.getElem?_take] at hu
   split at hu
   ·rw [List.getElem?_drop] at hu
    rw [add_add, addr_off]
    exact h6 _ u hu
   ·cases hu
 ·simp only [SR]
  exact ⟨_, rfl, SRs_cells _ _ _ _ _ h8 (fun j => by simp [Rho.sub])⟩
 ·simp only [AV.ids] at hi
  rw [cellAVs_ids _ _ i hi]; exact hids id (by simp [AV.ids])
class FieldTy (P : Program) (T : TypeId) (k : Nat) (off : outParam Nat) : Prop where
 out : ∃ fs fd i, P.underlying T = some (.struct fs) ∧ fs[k]? = some fd ∧ fd.offset = off ∧ P.info? fd.type = some i ∧ i.size ≠ 0
theorem run_field {T : TypeId} {k o : Nat} [ht : FieldTy P T k o] (w : World) (b : Addr) : (Instr.fieldAt T (.pointer (some b)) k).run P w = .ok (.pointer (some (b.add o))) w := by
 obtain ⟨fs, fd, i, t1, t2, t3, t4, t5⟩ := ht.out
 simp [Instr.fieldAt, run_underlying t1, t2, Instr.sureAddr, fieldPlace, sizeOf, typeInfo, t4, t5, t3]
theorem step_field {d t x id off k o : Nat} {path : List Nat} {T : TypeId} {ty pos aft g} [FieldTy P T k o] (h : st t = .ptr x id path off) (hd : n d = true) :
  Step P n ⟨some d, .fieldAddr T (.tmp t) k, ty, pos, aft, g⟩ nid st [t] [(d, .ptr x id path (off + o))] := by
 intro X st' hs hX f a w hn hrep K Q hK
 obtain ⟨ρ, L, hr⟩ := hrep
 subst hn
 have ht := hr.slots t
 have hids := hr.ids t
 rw [(hs t (by simp)).trans h] at ht hids
 simp only [SR] at ht
 obtain ⟨_, b, hb, e0⟩ := ht
 refine wV_ (u := .pointer (some (b.add (off + o)))) (w' := w) ?_ (hr.done_light hK hd _ w (Keep.refl w) (by simp only [SR]; exact ⟨trivial, b, hb, rfl⟩) (by simpa [AV.ids] using hids))
 have e1 : a.eval (.tmp t) = _ := e0
 simp only [execOp, e1, Sem.run_bind, run_field w, Result.andThen_ok, Sem.run_pure, add_add]
theorem step_field_root {d t id k o : Nat} {cs : List D} {T : TypeId} {ty pos aft g} [FieldTy P T k o] (h : st t = .own id (.pt true cs)) (hd : n d = true) :
  Step P n ⟨some d, .fieldAddr T (.tmp t) k, ty, pos, aft, g⟩ nid st [t] [(d, .ptr t id [] o)] := by
 intro X st' hs hX f a w hn hrep K Q hK
 obtain ⟨ρ, L, hr⟩ := hrep
 subst hn
 have ht := hr.slots t
 have hids := hr.ids t
 rw [(hs t (by simp)).trans h] at ht hids
 simp only [SR, RD] at ht
 obtain ⟨e, g0, us, L1, ty', e0, _⟩ := ht
 refine wV_ (u := .pointer (some ((⟨g0, 0, none⟩ : Addr).add o))) (w' := w) ?_ (hr.done_light hK hd _ w (Keep.refl w) (by simp only [SR]; exact ⟨trivial, ⟨g0, 0, none⟩, by rw [← e, e0]; rfl, rfl⟩) (by simpa [AV.ids] using hids))
 have e1 : a.eval (.tmp t) = _ := e0
 simp only [execOp, e1, Sem.run_bind, run_field w, Result.andThen_ok, Sem.run_pure]
theorem step_field_sh {d t off k o : Nat} {cs : List D} {T : TypeId} {ty pos aft g} [FieldTy P T k o] (h : st t = .sptr cs off) (hd : n d = true) :
  Step P n ⟨some d, .fieldAddr T (.tmp t) k, ty, pos, aft, g⟩ nid st [t] [(d, .sptr cs (off + o))] := by
 intro X st' hs hX f a w hn hrep K Q hK
 obtain ⟨ρ, L, hr⟩ := hrep
 subst hn
 have ht := hr.slots t
 rw [(hs t (by simp)).trans h] at ht
 simp only [SR] at ht
 obtain ⟨_, b, us, r, e0, h1, h2, h3⟩ := ht
 refine wV_ (u := .pointer (some (b.add (off + o)))) (w' := w) ?_ (hr.done_light hK hd _ w (Keep.refl w) (by simp only [SR]; exact ⟨trivial, b, us, r, rfl, h1, h2, h3⟩) (by simp [AV.ids]))
 have e1 : a.eval (.tmp t) = _ := e0
 simp only [execOp, e1, Sem.run_bind, run_field w, Result.andThen_ok, Sem.run_pure, add_add]
end
end Go.Pv
namespace Go.Pv
open Go.RowKit
section
variable {P : Program} {n : NN} {nid : Nat} {st : Nat → AV} {f : Fr} {X : Nat → Prop} {a : Act} {w : World} {ρ : Nat → Rho} {L : Nat → List Nat}
theorem Rho.set_sub : ∀ (ρ : Rho) (path : List Nat), ρ.set path (ρ.sub path) = ρ
 | ρ, [] => by funext q; simp [Rho.set, Rho.sub]
 | ρ, k :: path => by
  simp only [Rho.set]
  have : ρ.sub (k :: path) = (ρ.at k).sub path := by funext q; simp [Rho.sub, Rho.at]
  rw [this, Rho.set_sub, Rho.upd_at]
theorem setCell_heap_same (w : World) (g j : Nat) (u : Value) (cur : Array Value) (e : TypeId) (fr : Nat × Nat) (h : w.heap[g]? = some (.cells cur e fr)) : (w.setCell ⟨g, j, none⟩ u).heap[g]? = some (.cells (cur.setIfInBounds j u) e fr) := by
 have hlt : g < w.heap.size := (Array.getElem?_eq_some_iff.1 h).1
 have hv : w.heap[g] = .cells cur e fr := (Array.getElem?_eq_some_iff.1 h).2
 unfold World.setCell
 rw [Array.getElem?_eq_getElem (by simpa using hlt), Array.getElem_modify]
 simp [hv]
theorem setCell_heap_other (w : World) (g j g' : Nat) (u : Value) (h : g' ≠ g) : (w.setCell ⟨g, j, none⟩ u).heap[g']? = w.heap[g']? := by
 simp [World.setCell, Array.getElem?_modify, Ne.symm h]
theorem Keep.setCell (w : World) (g j : Nat) (u : Value) : Keep w [g] (w.setCell ⟨g, j, none⟩ u) :=
 ⟨rfl, rfl, rfl, by simp [World.setCell], fun g' _ hg => setCell_heap_other w g j g' u (by simpa using hg), fun _ => Nat.le_refl _⟩
theorem RD.storeC {F : Nat → Prop} {d1 : D} {cs : List D} {ρ : Rho} {v : Value} {L1 : List Nat} (h : RD F w d1 ρ v L1) (hk : d1.kids = some cs) {j : Nat} {c : D} (hc : cs[j]? = some c) (hnd : L1.Nodup) (hnF : ∀ g ∈ L1, ¬ F g) :
  ∃ g o A M B, baseOf v = some ⟨g, o, none⟩ ∧ L1 = g :: (A ++ (M ++ B)) ∧ (∃ u, w.cell? ⟨g, o + j, none⟩ = some u ∧ RD F w c (ρ.at j) u M) ∧ w.frozen? ⟨g, o + j, none⟩ = false ∧
   ∀ (d' : D) (ρ' : Rho) (u' : Value) (L' : List Nat), RD F (w.setCell ⟨g, o + j, none⟩ u') d' ρ' u' L' →
    RD F (w.setCell ⟨g, o + j, none⟩ u') (d1.withKids (cs.set j d')) (ρ.upd j ρ') v (g :: (A ++ (L' ++ B))) := by
 cases d1 with
 | lit v => simp [D.kids] at hk
 | hole => simp [D.kids] at hk
 | fn g cs => simp [D.kids] at hk
 | sl own sz cs' =>
  cases own
  ·simp [D.kids] at hk
  ·simp only [D.kids, Option.some.injEq] at hk
   subst hk
   simp only [RD] at h
   obtain ⟨h0, us, L0, L2, rfl, h2, h3⟩ := h
   obtain ⟨u, A, M, B, hu, rfl, hM, hput⟩ := RDs.at cs' 0 ρ us L2 h3 j c hc
   rcases h2 with ⟨_, rfl, _⟩ | ⟨g, o, n0, cap, cur, e, h4, h5, h6, h7, h8, h9, h10, rfl⟩
   ·simp at hu
   refine ⟨g, o, A, M, B, by rw [h4]; rfl, rfl, ⟨u, cell_off h5 h10 hu, by simpa using hM⟩, by simp [World.frozen?, h5], fun d' ρ' u' L' hd' => ?_⟩
   ·have hgn : ∀ g', (g' ∈ A ∨ g' ∈ B) → g' ≠ g := by
     rintro g' hg' rfl
     simp only [List.cons_append, List.nil_append, List.nodup_cons, List.mem_append, not_or] at hnd
     rcases hg' with hg' | hg'
     ·exact hnd.1.1 hg'
     ·exact hnd.1.2.2 hg'
    have hsame : ∀ g', g' ≠ g → Same w (w.setCell ⟨g, o + j, none⟩ u') g' := fun g' hg' => setCell_heap_other w g (o + j) g' u' hg'
    have hput' := hput _ d' ρ' u' L' (fun g' hg' => hsame g' (by rintro rfl; exact hnF g' (by simp) hg')) (fun g' hg' => hsame g' (hgn g' hg')) hd'
    simp only [D.withKids, RD]
    refine ⟨h0, us.set j u', [g], A ++ (L' ++ B), rfl, ?_, by simpa using hput'⟩
    refine .inr ⟨g, o, n0, cap, _, e, h4, setCell_heap_same w g (o + j) u' cur e _ h5, by simpa using h6, h7, h8, by simpa using h9, ?_, rfl⟩
    rw [Array.toList_setIfInBounds, List.drop_set, if_neg (by omega), Nat.add_sub_cancel_left, List.take_set, h10]
 | pt own cs' =>
  cases own
  ·simp [D.kids] at hk
  ·simp only [D.kids, Option.some.injEq] at hk
   subst hk
   simp only [RD] at h
   obtain ⟨h0, g, us, L2, e, h4, rfl, h5, h3⟩ := h
   obtain ⟨u, A, M, B, hu, rfl, hM, hput⟩ := RDs.at cs' 0 ρ us L2 h3 j c hc
   refine ⟨g, 0, ?_⟩
   rw [Nat.zero_add]
   refine ⟨A, M, B, by rw [h4]; rfl, rfl, ?_, by simp [World.frozen?, h5], fun d' ρ' u' L' hd' => ?_⟩
   ·refine ⟨u, ?_, by simpa using hM⟩
    rw [cell_of_row w g j us.toArray e (0, 0) h5]
    simpa using hu
   ·have hgn : ∀ g', (g' ∈ A ∨ g' ∈ B) → g' ≠ g := by
     rintro g' hg' rfl
     simp only [List.nodup_cons, List.mem_append, not_or] at hnd
     rcases hg' with hg' | hg'
     ·exact hnd.1.1 hg'
     ·exact hnd.1.2.2 hg'
    have hsame : ∀ g', g' ≠ g → Same w (w.setCell ⟨g, j, none⟩ u') g' := fun g' hg' => setCell_heap_other w g j g' u' hg'
    have hput' := hput _ d' ρ' u' L' (fun g' hg' => hsame g' (by rintro rfl; exact hnF g' (by simp) hg')) (fun g' hg' => hsame g' (hgn g' hg')) hd'
    simp only [D.withKids, RD]
    refine ⟨h0, g, us.set j u', A ++ (L' ++ B), e, h4, rfl, ?_, by simpa using hput'⟩
    rw [setCell_heap_same w g j u' us.toArray e _ h5]
    simp
theorem RD.store {F : Nat → Prop} {d1 : D} {cs : List D} {ρ : Rho} {v : Value} {L1 : List Nat} (h : RD F w d1 ρ v L1) (hk : d1.kids = some cs) {j : Nat} {c : D} (hc : cs[j]? = some c) (hnd : L1.Nodup) (hnF : ∀ g ∈ L1, ¬ F g) :
  ∃ g o A M B, baseOf v = some ⟨g, o, none⟩ ∧ L1 = g :: (A ++ (M ++ B)) ∧ (∃ u, w.cell? ⟨g, o + j, none⟩ = some u) ∧ w.frozen? ⟨g, o + j, none⟩ = false ∧
   ∀ (d' : D) (ρ' : Rho) (u' : Value) (L' : List Nat), RD F (w.setCell ⟨g, o + j, none⟩ u') d' ρ' u' L' →
    RD F (w.setCell ⟨g, o + j, none⟩ u') (d1.withKids (cs.set j d')) (ρ.upd j ρ') v (g :: (A ++ (L' ++ B))) := by
 obtain ⟨g, o, A, M, B, h1, h2, ⟨u, h3, _⟩, h4⟩ := h.storeC hk hc hnd hnF
 exact ⟨g, o, A, M, B, h1, h2, ⟨u, h3⟩, h4⟩
theorem run_store_one {T : TypeId} [ht : OneTy P T] (w : World) (b : Addr) (u v : Value) (h : w.cell? b = some u) (hf : w.frozen? b = false) (hv : v.oneCell' = true) : (Instr.storeAt T (.pointer (some b)) v).run P w = .ok () (w.setCell b v) := by
 obtain ⟨d, i, t1, t2, t3, t4⟩ := ht.out
 have hc : v.cells = #[v] := by cases v <;> simp [Value.oneCell'] at hv <;> rfl
 simp [Instr.storeAt, Instr.sureAddr, storeVar, hc, sizeOf, typeInfo, t3, t4, storeCells, run_store P w _ v _ hv, add_zero', h, hf]
theorem RD.one {F : Nat → Prop} {d : D} {r : Rho} {v : Value} {M : List Nat} (h : RD F w d r v M) : v.oneCell' = true := by
 cases d with
 | lit u => simp only [RD] at h; rw [h.1]; exact h.2.1
 | hole => simp only [RD] at h; exact h.2.1
 | fn g cs =>
  simp only [RD] at h
  obtain ⟨_, us, e, _⟩ := h
  rw [e]; rfl
 | sl own sz cs =>
  cases own
  ·simp only [RD] at h
   obtain ⟨_, us, ⟨a, n, c, e, _⟩, _⟩ := h
   rw [e]; rfl
  ·simp only [RD] at h
   obtain ⟨_, us, L0, L1, _, h, _⟩ := h
   rcases h with ⟨e, _⟩ | ⟨g, o, n, cap, cur, e', e, _⟩ <;> rw [e] <;> rfl
 | pt own cs =>
  cases own
  ·simp only [RD] at h
   obtain ⟨_, b, us, e, _⟩ := h
   rw [e]; rfl
  ·simp only [RD] at h
   obtain ⟨_, g, us, L1, e', e, _⟩ := h
   rw [e]; rfl
theorem step_store_lit {t x id off : Nat} {path : List Nat} {xv : Operand} {u0 : Value} {T : TypeId} {dd d1 : D} {cs : List D} {c : D} {ty pos aft g} [OneTy P T] (h : st t = .ptr x id path off) (hx : st x = .own id dd) (hn' : dd.nav path = some d1) (hk : d1.kids = some cs) (hc : cs[off]? = some c)
  (hv : Lit st xv u0) (hu0 : u0.oneCell' = true) :
  Step P n ⟨none, .store T (.tmp t) xv, ty, pos, aft, g⟩ nid st (t :: x :: rdOf xv) [(x, .own id (dd.put path (d1.withKids (cs.set off (.lit u0)))))] := by
 intro X st' hs hX f a w hn hrep K Q hK
 obtain ⟨ρ, L, hr⟩ := hrep
 subst hn
 have ht := hr.slots t
 rw [(hs t (by simp)).trans h] at ht
 simp only [SR] at ht
 obtain ⟨_, b, hb, e0⟩ := ht
 have hxx := (hs x (by simp)).trans hx
 have ev := Lit.eval hr (hv.agree fun s hs' => hs s (by simp [hs']))
 obtain ⟨v1, A, L1, B, eL, h1, hset⟩ := hr.part hxx hn'
 have hnd : L1.Nodup := by have := hr.nodup x; rw [eL] at this; exact ((List.nodup_append.1 ((List.nodup_append.1 this).2.1)).1)
 have hsub : ∀ g' ∈ L1, g' ∈ L x := fun g' hg => by rw [eL]; simp [hg]
 obtain ⟨g0, o0, A1, M1, B1, hb1, rfl, ⟨uo, huo⟩, hfr, hput⟩ := h1.store hk hc hnd (fun g' hg => (hr.bound x g' (hsub g' hg)).2)
 have hv1 : v1 = ρ id path := by
  cases d1 with
  | lit v => simp [D.kids] at hk
  | hole => simp [D.kids] at hk
  | fn g cs => simp [D.kids] at hk
  | sl own sz cs' => cases own <;> simp [D.kids] at hk; simp only [RD] at h1; rw [h1.1, Rho.sub_nil]
  | pt own cs' => cases own <;> simp [D.kids] at hk; simp only [RD] at h1; rw [h1.1, Rho.sub_nil]
 rw [← hv1, hb1] at hb
 simp only [Option.some.injEq] at hb
 subst hb
 rw [addr_off] at e0
 have e1 : a.eval (.tmp t) = _ := e0
 have hnew := hput (.lit u0) (((ρ id).sub path).at off) u0 [] (by simp only [RD]; exact ⟨trivial, hu0, trivial⟩)
 rw [Rho.upd_at] at hnew
 have hg0 : g0 ∈ L x := hsub g0 (by simp)
 have hndx := hr.nodup x
 rw [eL] at hndx
 have hAB : ∀ g', g' ∈ A ∨ g' ∈ B → g' ≠ g0 := by
  rintro g' hg' rfl
  simp only [List.nodup_append, List.mem_append, List.mem_cons] at hndx
  rcases hg' with hg' | hg'
  ·exact hndx.2.2 g' hg' g' (.inl (.inl rfl)) rfl
  ·exact hndx.2.1.2.2 g' (.inl rfl) g' hg' rfl
 have hfin := hset (w.setCell ⟨g0, o0 + off, none⟩ u0) _ _ _ (fun g' hg' => setCell_heap_other w g0 (o0 + off) g' u0 (by rintro rfl; exact (hr.bound x g' hg0).2 hg')) (fun g' hg' => setCell_heap_other w g0 (o0 + off) g' u0 (hAB g' hg')) hnew
 rw [Rho.set_sub] at hfin
 refine wp_of_skip (w' := w.setCell ⟨g0, o0 + off, none⟩ u0) ?_ (hK _ _ ⟨ρ, fun s => if s = x then A ++ (g0 :: (A1 ++ ([] ++ B1)) ++ B) else L s, ?_⟩)
 ·simp only [execOp, e1, ev, Sem.run_bind, run_store_one w _ uo u0 huo hfr hu0, Result.andThen_ok, Sem.run_pure]
 ·refine hr.step (fun s => s = x) [g0] _ _ _ _ ρ _ rfl rfl (fun _ _ => rfl) (Keep.setCell w g0 (o0 + off) u0) (fun g' hg' => ⟨x, rfl, by simp only [List.mem_singleton] at hg'; rw [hg']; exact hg0⟩) (fun _ _ => rfl) (fun s hs' => ⟨put_other _ _ _ _ hs', rfl, by simp [hs']⟩) (fun s hs' => ?_) (fun s u hs' hu hne => absurd (hs'.trans hu.symm) hne) (fun _ h => .inl h) (fun s hs' i hi => ?_)
  ·subst hs'
   simp only [puts, put_same, if_true, SR]
   refine ⟨hfin, ?_, fun g' hg' => ?_⟩
   ·simp only [List.nil_append, List.nodup_append, List.mem_append, List.mem_cons, List.nodup_cons, List.cons_append] at hndx ⊢
    grind
   ·have : g' ∈ L s := by
     rw [eL]
     simp only [List.nil_append, List.mem_append, List.mem_cons, List.cons_append] at hg' ⊢
     grind
    exact ⟨by simp [World.setCell]; exact (hr.bound s g' this).1, .inl ⟨s, rfl, this⟩⟩
  ·subst hs'
   simp only [puts, put_same, AV.ids, List.mem_singleton] at hi
   subst hi
   exact .inl (hr.ids s i (by rw [hxx]; simp [AV.ids]))
end
end Go.Pv
