/- Calls that write into their first argument and keep its names: slices stay where they are, their elements change. No condition. -/
import Derived.Test.YtpdfadnpfmlfgaaDoorNPvO
import Derived.ProofKit
import Derived.Deep.Slices
import Derived.Test.YtpdfadnpfmlfgaaDoorNPvP
import Derived.Test.YtpdfadnpfmlfgaaDoorNPvH
import Derived.Laws.Cover3
set_option linter.unusedVariables false
set_option linter.unusedSimpArgs false
namespace Go.Pv
open Go.RowKit Go.ChangeShapes Go.WideShapes Go.Deep
mutual
inductive Ty (P : Program) : TypeId → List D → Prop
  | int {t k n} : P.underlying t = some (.int k) → (Lit.int k n).wf = true → Ty P t [.lit (.int k n)]
  | bool {t b} : P.underlying t = some .bool → Ty P t [.lit (.bool b)]
  | str {t s} : P.underlying t = some .string → s.size ≤ maxLen → Ty P t [.lit (.string s)]
  | slice {t e parts} : P.underlying t = some (.slice e) → TyL P e parts → parts.length ≤ maxLen → Ty P t [.sl false (P.cellsOf e) parts.flatten]
  | struct {t fs ds} : P.underlying t = some (.struct fs) → TyF P (fs.toList.map (·.type)) ds → Ty P t ds
inductive TyL (P : Program) : TypeId → List (List D) → Prop
  | nil {e} : TyL P e []
  | cons {e p ps} : Ty P e p → TyL P e ps → TyL P e (p :: ps)
inductive TyF (P : Program) : List TypeId → List D → Prop
  | nil : TyF P [] []
  | cons {t ts ds ds'} : Ty P t ds → TyF P ts ds' → TyF P (t :: ts) (ds ++ ds')
end
def contig (P : Program) : List Field → Nat → Nat → Bool
  | [], at_, n => at_ == n
  | f :: fs, at_, n => f.offset == at_ && contig P fs (at_ + P.cellsOf f.type) n
def plainB (P : Program) : Nat → TypeId → Bool
  | 0, _ => false
  | n + 1, t => match P.underlying t with
    | some .bool => true
    | some (.int _) => true
    | some .string => true
    | some (.slice e) => plainB P n e
    | some (.struct fs) => contig P fs.toList 0 (P.cellsOf t) && fs.toList.all fun f => plainB P n f.type
    | _ => false
section
variable {H : Type} {enc : TypeId × Value → H} {P : Program} {w : World} {base : Nat} {spare : Nat → Bool} {held : Bool} {F : Nat → Prop}
theorem rds_app {r : Rho} : ∀ {ds ds' : List D} {us us' : List Value} {k : Nat}, RDs F w ds k r us [] → (∀ k, RDs F w ds' k r us' []) → RDs F w (ds ++ ds') k r (us ++ us') []
  | [], ds', us, us', k, h, h' => by simp only [RDs] at h; obtain ⟨rfl, _⟩ := h; exact h' k
  | d :: ds, ds', us, us', k, h, h' => by
    simp only [RDs] at h
    obtain ⟨u, v, L1, L2, rfl, e, h1, h2⟩ := h
    obtain ⟨rfl, rfl⟩ := List.append_eq_nil_iff.1 e.symm
    simp only [List.cons_append, RDs]
    exact ⟨u, v ++ us', [], [], rfl, rfl, h1, rds_app (k := k + 1) h2 h'⟩
theorem cell_lt {w : World} {a : Addr} {v : Value} (h : w.cell? a = some v) : a.block < w.heap.size := by
  unfold World.cell? at h
  cases hb : w.heap[a.block]? with
  | none => simp [hb] at h
  | some o => exact (Array.getElem?_eq_some_iff.1 hb).1
theorem elems_rd {e : TypeId} {a : Addr} {n : Nat} (ih : ∀ {cs x}, DataW.trod enc P w base spare held n e cs = some x → ∃ ds, Ty P e ds ∧ ∀ k r, RDs (fun g => g < w.heap.size) w ds k r cs []) :
    ∀ (len : Nat), (∀ i, i < len → ∃ cs x, w.cells? base (a.add (i * P.cellsOf e)) (P.cellsOf e) = some cs ∧ DataW.trod enc P w base spare held n e cs = some x) →
      ∃ parts us, TyL P e parts ∧ parts.length = len ∧ us.length = len * P.cellsOf e ∧ (∀ k r, RDs (fun g => g < w.heap.size) w parts.flatten k r us []) ∧ ∀ (j : Nat) (u : Value), us[j]? = some u → w.cell? (a.add j) = some u
  | 0, _ => ⟨[], [], .nil, rfl, by simp, fun k r => by simp [RDs], fun j u h => by simp at h⟩
  | len + 1, h => by
    obtain ⟨parts, us, h1, h2, h3, h4, h5⟩ := elems_rd ih len fun i hi => h i (by omega)
    obtain ⟨cs, x, hc, hx⟩ := h len (by omega)
    obtain ⟨ds, hd, hr⟩ := ih hx
    obtain ⟨_, hl, hg⟩ := World.cells?_some hc
    have snoc : ∀ {ps : List (List D)}, TyL P e ps → TyL P e (ps ++ [ds]) := by
      intro ps hp
      induction ps with
      | nil => exact .cons hd .nil
      | cons p ps ihp => cases hp with | cons a b => exact .cons a (ihp b)
    refine ⟨parts ++ [ds], us ++ cs, snoc h1, by simp [h2], by rw [List.length_append, h3, hl, Nat.succ_mul], fun k r => ?_, fun j u hj => ?_⟩
    · rw [List.flatten_append]
      exact rds_app (k := k) (h4 k r) fun k => by simpa using hr k r
    · rw [List.getElem?_append] at hj
      split at hj
      · exact h5 j u hj
      · rename_i hlt
        have hjlt : j - us.length < cs.length := (List.getElem?_eq_some_iff.1 hj).1
        have := hg (j - us.length) (by omega)
        rw [add_add, hj] at this
        rw [← this]
        congr 2
        omega
theorem fields_rd : ∀ (fs : List Field) (cs : List Value) (at_ : Nat), contig P fs at_ (at_ + cs.length) = true →
      (∀ f ∈ fs, ∃ ds, Ty P f.type ds ∧ ∀ k r, RDs F w ds k r ((cs.drop (f.offset - at_)).take (P.cellsOf f.type)) []) →
      ∃ ds, TyF P (fs.map (·.type)) ds ∧ ∀ k r, RDs F w ds k r cs []
  | [], cs, at_, h, _ => by
    simp [contig] at h
    subst h
    exact ⟨[], .nil, fun k r => by simp [RDs]⟩
  | f :: fs, cs, at_, h, hx => by
    simp only [contig, Bool.and_eq_true, beq_iff_eq] at h
    obtain ⟨h1, h2⟩ := h
    have mono : ∀ (fs : List Field) (a m : Nat), contig P fs a m = true → a ≤ m ∧ ∀ f ∈ fs, a ≤ f.offset := by
      intro fs
      induction fs with
      | nil => intro a m h; simp [contig] at h; exact ⟨by omega, by simp⟩
      | cons f fs ih =>
        intro a m h
        simp only [contig, Bool.and_eq_true, beq_iff_eq] at h
        have := ih _ _ h.2
        exact ⟨by omega, fun g hg => by rcases List.mem_cons.1 hg with rfl | hg; · omega
                                        · have := this.2 g hg; omega⟩
    have hm := mono _ _ _ h2
    obtain ⟨d1, t1, r1⟩ := hx f (by simp)
    have hlen : at_ + P.cellsOf f.type + (cs.drop (P.cellsOf f.type)).length = at_ + cs.length := by
      rw [List.length_drop]; omega
    obtain ⟨d2, t2, r2⟩ := fields_rd fs (cs.drop (P.cellsOf f.type)) (at_ + P.cellsOf f.type) (by rw [hlen]; exact h2) (fun g hg => by
      obtain ⟨d, t, r⟩ := hx g (List.mem_cons_of_mem _ hg)
      refine ⟨d, t, fun k ρ => ?_⟩
      have := r k ρ
      rw [List.drop_drop, show P.cellsOf f.type + (g.offset - (at_ + P.cellsOf f.type)) = g.offset - at_ by have := hm.2 g hg; omega]
      exact this)
    refine ⟨d1 ++ d2, .cons t1 t2, fun k r => ?_⟩
    have h3 := r1 k r
    rw [h1, Nat.sub_self, List.drop_zero] at h3
    have := rds_app (k := k) h3 fun k => r2 k r
    rwa [List.take_append_drop] at this
theorem trod_rd : ∀ (N : Nat) {t : TypeId} {fuel : Nat} {cs : List Value} {x : DataW H × List MemPlace}, plainB P N t = true → DataW.trod enc P w base spare held fuel t cs = some x →
    ∃ ds, Ty P t ds ∧ ∀ k r, RDs (fun g => g < w.heap.size) w ds k r cs []
  | 0, _, _, _, _, h, _ => by simp [plainB] at h
  | N + 1, t, fuel, cs, x, h, hx => by
    unfold plainB at h
    cases hu : P.underlying t with
    | none => simp [hu] at h
    | some u =>
      cases u with
      | bool =>
        obtain ⟨b, rfl, _⟩ := DataW.trod_bool hu hx
        exact ⟨_, .bool hu, fun k r => by simp only [RDs, RD]; exact ⟨_, [], [], [], rfl, rfl, ⟨rfl, rfl, rfl⟩, rfl, rfl⟩⟩
      | int k =>
        obtain ⟨b, rfl, _, hw⟩ := DataW.trod_int hu hx
        exact ⟨_, .int hu hw, fun k r => by simp only [RDs, RD]; exact ⟨_, [], [], [], rfl, rfl, ⟨rfl, rfl, rfl⟩, rfl, rfl⟩⟩
      | string =>
        obtain ⟨b, rfl, _, hw⟩ := DataW.trod_string hu hx
        exact ⟨_, .str hu hw, fun k r => by simp only [RDs, RD]; exact ⟨_, [], [], [], rfl, rfl, ⟨rfl, rfl, rfl⟩, rfl, rfl⟩⟩
      | slice e =>
        simp only [hu] at h
        rcases Go.Deep.open_slice hu hx with ⟨rfl, _⟩ | ⟨a, len, cap, m, n, Df, Pl, rfl, _, hl, hm, hmm, _, hall⟩
        · refine ⟨_, .slice hu .nil (Nat.zero_le _), fun k r => ?_⟩
          simp only [RDs, RD, List.flatten_nil]
          exact ⟨_, [], [], [], rfl, rfl, ⟨rfl, [], ⟨none, 0, 0, rfl, by simp, Nat.le_refl _, Nat.zero_le _, fun h => absurd rfl h⟩, by simp⟩, by simp⟩
        · have hml : len ≤ m := by rw [hmm]; split <;> omega
          obtain ⟨parts, us, h1, h2, h3, h4, h5⟩ := elems_rd (fun hx => trod_rd N h hx) len (a := a) (n := n) (fun i hi => by
            obtain ⟨cs', k1, k2⟩ := hall i (by omega)
            exact ⟨cs', _, k1, k2⟩)
          refine ⟨_, .slice hu h1 (by omega), fun k r => ?_⟩
          simp only [RDs, RD]
          refine ⟨_, [], [], [], rfl, rfl, ⟨rfl, us, ⟨some a, len, cap, rfl, h3.symm, hl, hm, fun hne => ⟨a, rfl, ?_, h5⟩⟩, h4 0 _⟩, rfl, rfl⟩
          match us, hne with
          | u :: us', _ =>
            have := cell_lt (h5 0 u rfl)
            rwa [add_block] at this
      | struct fs =>
        simp only [hu, Bool.and_eq_true, List.all_eq_true] at h
        obtain ⟨xs, n, rfl, rfl, hl, hxl, hall⟩ := DataW.trod_struct hu hx
        obtain ⟨ds, h1, h2⟩ := fields_rd (P := P) (w := w) (F := fun g => g < w.heap.size) fs.toList cs 0 (by rw [Nat.zero_add, hl]; exact h.1) (fun f hf => by
          obtain ⟨i, hi, he⟩ := List.getElem_of_mem hf
          have hi' : i < fs.size := by simpa using hi
          have hfi : fs[i]? = some f := by rw [← he]; simp [hi']
          have := hall i f hfi
          have hxi : xs[i]? = some xs[i] := List.getElem?_eq_getElem (by omega)
          rw [hxi] at this
          rw [Nat.sub_zero]
          exact trod_rd N (h.2 f hf) this)
        exact ⟨ds, .struct hu h1, h2⟩
      | _ => simp [hu] at h
inductive Sees (P : Program) : List TypeId → List Arg → Prop
  | nil : Sees P [] []
  | one {t ts d as} : (∀ fs, P.underlying t ≠ some (.struct fs)) → Ty P t [d] → Sees P ts as → Sees P (t :: ts) (.sh (.one d) :: as)
  | agg {t ts fs ds as} : P.underlying t = some (.struct fs) → Ty P t ds → Sees P ts as → Sees P (t :: ts) (.sh (.agg ds) :: as)
def plain1 (P : Program) (t : TypeId) : Bool := plainB P 12 t
theorem sees_of {b0 : Nat} {W : World} : ∀ {ts : List TypeId} {vs : List Value} {ds : List (DataW H)} {ps : List MemPlace}, (∀ t ∈ ts, plain1 P t = true) →
    (∀ (j : Nat) t v, ts[j]? = some t → vs[j]? = some v → Value.okWide P W .any b0 t v) → DataW.TrodAll enc P W 0 (fun _ => true) true ts vs ds ps →
    ∃ as, Sees P ts as ∧ ArgsR (fun g => g < W.heap.size) W as vs []
  | [], _, _, _, _, _, h => by
    obtain ⟨rfl, rfl, rfl⟩ := trodAll_nil h
    exact ⟨[], .nil, by simp [ArgsR]⟩
  | t :: ts, _, _, _, hp, hv, h => by
    obtain ⟨v, vs', d, ds', p, q, rfl, rfl, rfl, h1, h2⟩ := trodAll_cons h
    obtain ⟨as, k1, k2⟩ := sees_of (fun t ht => hp t (List.mem_cons_of_mem _ ht)) (fun j t' v' a b => hv (j + 1) t' v' (by simpa using a) (by simpa using b)) h2
    have hok := hv 0 t v rfl rfl
    obtain ⟨fuel, hf⟩ := h1
    have hpt := hp t (by simp)
    obtain ⟨dd, t1, r1⟩ := trod_rd 12 hpt hf
    cases hu : P.underlying t with
    | none => simp [plain1, plainB, hu] at hpt
    | some u =>
      have fin : (∀ fs, P.underlying t ≠ some (.struct fs)) → ∀ dd, Ty P t dd → (∀ k r, RDs (fun g => g < W.heap.size) W dd k r [v] []) → ∃ as, Sees P (t :: ts) as ∧ ArgsR (fun g => g < W.heap.size) W as (v :: vs') [] := by
        intro hns dd t1 r1
        have hl := RDs.length (r1 0 fun _ => undef)
        match dd, hl with
        | [d], _ =>
          have := r1 0 fun _ => undef
          simp only [RDs] at this
          obtain ⟨u, us', L1, L2, e1, e2, h3, h4, h5⟩ := this
          obtain ⟨rfl, rfl⟩ := List.append_eq_nil_iff.1 e2.symm
          obtain ⟨rfl, rfl⟩ := List.cons.inj e1
          refine ⟨_, .one hns t1 k1, ?_⟩
          simp only [ArgsR]
          exact ⟨_, _, [], [], rfl, rfl, ⟨rfl, _, h3⟩, k2⟩
      cases u with
      | struct fs =>
        obtain ⟨cs, rfl, _⟩ := okWide_struct hu hok
        refine ⟨_, .agg hu t1 k1, ?_⟩
        simp only [ArgsR]
        refine ⟨_, _, [], [], rfl, rfl, ⟨rfl, fun _ => undef, cs.toList, by simp, ?_⟩, k2⟩
        simpa [Value.cells] using r1 0 fun _ => undef
      | bool => obtain ⟨b, rfl⟩ := okWide_bool hu hok; exact fin (fun fs e => by rw [hu] at e; cases e) _ t1 (by simpa [Value.cells] using r1)
      | int k => obtain ⟨b, rfl⟩ := okWide_int hu hok; exact fin (fun fs e => by rw [hu] at e; cases e) _ t1 (by simpa [Value.cells] using r1)
      | string => obtain ⟨b, rfl⟩ := okWide_string hu hok; exact fin (fun fs e => by rw [hu] at e; cases e) _ t1 (by simpa [Value.cells] using r1)
      | slice e => obtain ⟨a, b, c, rfl⟩ := okWide_slice hu hok; exact fin (fun fs e => by rw [hu] at e; cases e) _ t1 (by simpa [Value.cells] using r1)
      | _ => simp [plain1, plainB, hu] at hpt
theorem trodAll_below {W W' : World} (hl : laidOutB P = true) (hb : Below W.heap.size W W') : ∀ {ts : List TypeId} {vs : List Value} {ds : List (DataW H)} {ps : List MemPlace},
    (∀ t ∈ ts, P.readableRec t = true ∧ t < P.types.size) → (∀ x ∈ ps, x.block < W.heap.size) → DataW.TrodAll enc P W 0 (fun _ => true) true ts vs ds ps →
    DataW.TrodAll enc P W' 0 (fun b => decide (b < W.heap.size)) true ts vs ds ps
  | [], _, _, _, _, _, h => by
    obtain ⟨rfl, rfl, rfl⟩ := trodAll_nil h
    exact trodAll_mk0
  | t :: ts, _, _, _, hp, hlt, h => by
    obtain ⟨v, vs', d, ds', p, q, rfl, rfl, rfl, h1, h2⟩ := trodAll_cons h
    have ht := hp t (by simp)
    exact ⟨p, q, h1.elim fun f hf => Below.trod hl ht.1 ht.2 ⟨f, hf⟩ hb (fun x hx => hlt x (by simp [hx])), trodAll_below hl hb (fun t ht => hp t (List.mem_cons_of_mem _ ht)) (fun x hx => hlt x (by simp [hx])) h2, rfl⟩
end
section
variable {P : Program}
theorem ty_int {t k ds} (hu : P.underlying t = some (.int k)) (h : Ty P t ds) : ∃ n, ds = [.lit (.int k n)] ∧ (Lit.int k n).wf = true := by
  cases h with
  | int h1 h2 => rw [hu] at h1; cases h1; exact ⟨_, rfl, h2⟩
  | bool h1 => rw [hu] at h1; cases h1
  | str h1 => rw [hu] at h1; cases h1
  | slice h1 => rw [hu] at h1; cases h1
  | struct h1 => rw [hu] at h1; cases h1
theorem ty_slice {t e ds} (hu : P.underlying t = some (.slice e)) (h : Ty P t ds) : ∃ parts, ds = [.sl false (P.cellsOf e) parts.flatten] ∧ TyL P e parts ∧ parts.length ≤ maxLen := by
  cases h with
  | int h1 h2 => rw [hu] at h1; cases h1
  | bool h1 => rw [hu] at h1; cases h1
  | str h1 => rw [hu] at h1; cases h1
  | slice h1 h2 h3 => rw [hu] at h1; cases h1; exact ⟨_, rfl, h2, h3⟩
  | struct h1 => rw [hu] at h1; cases h1
theorem ty_struct {t fs ds} (hu : P.underlying t = some (.struct fs)) (h : Ty P t ds) : TyF P (fs.toList.map (·.type)) ds := by
  cases h with
  | int h1 h2 => rw [hu] at h1; cases h1
  | bool h1 => rw [hu] at h1; cases h1
  | str h1 => rw [hu] at h1; cases h1
  | slice h1 => rw [hu] at h1; cases h1
  | struct h1 h2 => rw [hu] at h1; cases h1; exact h2
theorem tyF_cons {t ts ds} (h : TyF P (t :: ts) ds) : ∃ a b, ds = a ++ b ∧ Ty P t a ∧ TyF P ts b := by
  cases h with | cons h1 h2 => exact ⟨_, _, rfl, h1, h2⟩
theorem tyF_nil {ds} (h : TyF P [] ds) : ds = [] := by cases h; rfl
theorem tyL_map {α : Type} {e parts} (g : α → List D) (q : α → Prop) (h : TyL P e parts) (hg : ∀ p, Ty P e p → ∃ a, p = g a ∧ q a) : ∃ l : List α, parts = l.map g ∧ ∀ a ∈ l, q a := by
  induction parts with
  | nil => exact ⟨[], rfl, by simp⟩
  | cons p ps ih =>
    cases h with
    | cons h1 h2 =>
      obtain ⟨l, rfl, hl⟩ := ih h2
      obtain ⟨a, rfl, ha⟩ := hg p h1
      exact ⟨a :: l, rfl, by simpa using ⟨ha, hl⟩⟩
theorem sees_nil {as} (h : Sees P [] as) : as = [] := by cases h; rfl
theorem wf_i64 {n : Int} (h : (Lit.int .i64 n).wf = true) : -9223372036854775808 ≤ n ∧ n ≤ 9223372036854775807 := by
  simpa [Lit.wf, IntKind.min, IntKind.max, IntKind.signed, IntKind.bits] using h
end
end Go.Pv
namespace Go.Pv
open Go.RowKit
section
variable {P : Program} {T : TypeId}
theorem SliceTy.of {e : TypeId} {z : Value} {sz bytes : Nat} (hu : P.underlying T = some (.slice e)) (hi : (P.info? e).map (fun i => (i.zero, i.size, i.bytes)) = some (some z, sz, bytes)) (h : (decide (0 < sz) && decide (sz ≤ 16) && decide (bytes ≤ 128) && (z.cells.size == sz)) = true) : SliceTy P T sz := by
  obtain ⟨i, h1, h2⟩ := Option.map_eq_some_iff.1 hi
  simp only [Prod.mk.injEq] at h2
  obtain ⟨h2, h3, h4⟩ := h2
  simp only [Bool.and_eq_true, decide_eq_true_eq, beq_iff_eq] at h
  exact ⟨e, i, z, hu, h1, h3, h.1.1.1, h.1.1.2, by rw [h4]; exact h.1.2, h2, h.2⟩
def oneDesc : TypeDesc → Bool
  | .struct _ => false
  | .array _ _ => false
  | _ => true
theorem OneTy.of {d : TypeDesc} (hu : P.underlying T = some d) (hd : oneDesc d = true) (hi : (P.info? T).map (·.size) = some 1) : OneTy P T := by
  obtain ⟨i, h1, h2⟩ := Option.map_eq_some_iff.1 hi
  exact ⟨d, i, hu, by cases d <;> first | rfl | exact hd, h1, h2⟩
theorem StructTy.of {fs : Array Field} {sz : Nat} (hu : P.underlying T = some (.struct fs)) (hi : (P.info? T).map (·.size) = some sz) : StructTy P T sz := by
  obtain ⟨i, h1, h2⟩ := Option.map_eq_some_iff.1 hi
  exact ⟨fs, i, hu, h1, h2⟩
theorem FieldTy.of {fs : Array Field} {k off ft s : Nat} (hu : P.underlying T = some (.struct fs)) (hf : (fs[k]?).map (fun f => (f.offset, f.type)) = some (off, ft)) (hi : (P.info? ft).map (·.size) = some (s + 1)) : FieldTy P T k off := by
  obtain ⟨f, h1, h2⟩ := Option.map_eq_some_iff.1 hf
  simp only [Prod.mk.injEq] at h2
  obtain ⟨rfl, rfl⟩ := h2
  obtain ⟨i, h3, h4⟩ := Option.map_eq_some_iff.1 hi
  exact ⟨fs, f, i, hu, h1, rfl, h3, by omega⟩
theorem ZeroTy.of {z : Value} {ds : List D} (hi : (P.info? T).map (·.zero) = some (some z)) (h : ZeroDs z.cells.toList ds) : ZeroTy P T ds := by
  obtain ⟨i, h1, h2⟩ := Option.map_eq_some_iff.1 hi
  exact ⟨i, z, h1, h2, h⟩
theorem MakeTy.of {e : TypeId} {z : Value} {bytes : Nat} {d0 : D} (hu : P.underlying T = some (.slice e)) (hi : (P.info? e).map (fun i => (i.zero, i.size, i.bytes)) = some (some z, 1, bytes)) (h : bytes ≤ 128) (hc : z.cells = #[z]) (hz : ZeroD z d0) : MakeTy P T d0 := by
  obtain ⟨i, h1, h2⟩ := Option.map_eq_some_iff.1 hi
  simp only [Prod.mk.injEq] at h2
  obtain ⟨h2, h3, h4⟩ := h2
  exact ⟨e, i, z, hu, h1, h3, by rw [h4]; exact h, h2, hc, hz⟩
theorem zero_lit {v : Value} (h : v.oneCell' = true) : ZeroD v (.lit v) := by
  cases v with
  | slice a b c => cases a <;> cases b <;> cases c <;> exact ⟨rfl, h⟩
  | _ => exact ⟨rfl, h⟩
theorem zero_nil {sz : Nat} : ZeroD (.slice none 0 0) (.sl true sz []) := trivial
end
end Go.Pv
namespace Go.Pv
open Go.RowKit
section
variable {P : Program} {n : NN} {st : Nat → AV} {nx nid : Nat}
theorem Then.next {K : (Nat → AV) → Nat → Prop} {Q : Exit → (Nat → AV) → Nat → Prop} {s : Nat → AV} {k : Nat} (h : K s k) : Then K Q .normal s k := h
theorem InBlock.next {Q : Exit → (Nat → AV) → Nat → Prop} {id : Nat} {s : Nat → AV} {k : Nat} (h : Q .normal s k) : InBlock id Q .normal s k := h
abbrev ints (l : List Int) : List D := l.map fun x => D.lit (.int .i64 x)
theorem map_get {α : Type} {g : α → D} {L : List α} {i : Nat} (d0 : α) (h : i < L.length) : (L.map g)[i]? = some (g (L.getD i d0)) := by
  simp [List.getD, h]
theorem ints_get {l : List Int} {i : Nat} (h : i < l.length) : (l.map fun x => D.lit (.int .i64 x))[i]? = some (.lit (.int .i64 (l.getD i 0))) := map_get 0 h
theorem erases_ints (l : List Int) : D.erases (ints l) = ints l := by rw [D.erases_eq]; simp [D.erase]
theorem solids_ints (l : List Int) : D.solids (ints l) = true := by
  unfold ints
  induction l with
  | nil => rfl
  | cons a l ih => simp only [List.map_cons, D.solids, D.solid, ih, Bool.and_self]
theorem plain_ints (l : List Int) : ∀ d ∈ ints l, d.plain = true := by simp [D.plain]
theorem step_len_map {α : Type} {g : α → D} {L : List α} {d : Nat} {x : Operand} {T : TypeId} {sz' : Nat} {rd : List Nat} {ty pos aft gd} [SliceTy P T sz'] (hv : View st x rd 1 (L.map g)) (hd : n d = true) :
    Step P n ⟨some d, .call ⟨.builtin .len, #[x], #[T]⟩, ty, pos, aft, gd⟩ nid st rd [(d, .c (.lit (.int .i64 (L.length : Int))))] := by
  have := step_len (P := P) (n := n) (nid := nid) (ty := ty) (pos := pos) (aft := aft) (g := gd) (d := d) (T := T) (sz' := sz') hv L.length (by simp) (by decide) hd
  exact this
theorem step_store_ints {t x id off : Nat} {path : List Nat} {xv : Operand} {v : Int} {T : TypeId} {dd d1 : D} {l : List Int} {ty pos aft g} [OneTy P T] (h : st t = .ptr x id path off) (hx : st x = .own id dd) (hn' : dd.nav path = some d1) (hk : d1.kids = some (ints l))
    (hv : Lit st xv (.int .i64 v)) (hlt : off < l.length) :
    Step P n ⟨none, .store T (.tmp t) xv, ty, pos, aft, g⟩ nid st (t :: x :: rdOf xv) [(x, .own id (dd.put path (d1.withKids (ints (l.set off v)))))] := by
  have := step_store_lit (P := P) (n := n) (nid := nid) (T := T) (ty := ty) (pos := pos) (aft := aft) (g := g) h hx hn' hk (ints_get hlt) hv rfl
  rwa [show (ints l).set off (.lit (.int .i64 v)) = ints (l.set off v) by simp [ints, List.map_set]] at this
theorem replicate_ints (m : Nat) : List.replicate m (D.lit (.int .i64 0)) = ints (List.replicate m 0) := by simp [ints]
theorem step_make_ints {d : Nat} {T : TypeId} {x y : Operand} {k k' : IntKind} {i i' : Int} {ty pos aft g} [hT : MakeTy P T (.lit (.int .i64 0))] (hx : Lit st x (.int k i)) (hy : Lit st y (.int k' i')) (he : i' = i) (h0 : 0 ≤ i) (hm : i ≤ 1099511627776) (hd : n d = true) :
    Step P n ⟨some d, .makeSlice T x y, ty, pos, aft, g⟩ nid st (rdOf x ++ rdOf y) [(d, .own nid (.sl true 1 (ints (List.replicate i.toNat 0))))] := by
  rw [← replicate_ints]
  exact step_make hx hy (Int.toNat_of_nonneg h0).symm (by rw [he]; exact (Int.toNat_of_nonneg h0).symm) (by omega) hd
theorem own_ints {id sz : Nat} {l l' : List Int} (h : l = l') : AV.own id (.sl true sz (ints l)) = AV.own id (.sl true sz (ints l')) := by rw [h]
theorem c_ints {o : Bool} {sz : Nat} {l l' : List Int} (h : l = l') : AV.c (.sl o sz (ints l)) = AV.c (.sl o sz (ints l')) := by rw [h]
theorem fill_step : ∀ (l : List Int) (j : Nat), j < l.length → (l.take j ++ List.replicate (l.length - j) 0).set j (l.getD j 0) = l.take (j + 1) ++ List.replicate (l.length - (j + 1)) 0
  | [], _, h => by simp at h
  | a :: l, 0, _ => by simp [List.replicate_succ]
  | a :: l, j + 1, h => by
    have := fill_step l j (by simpa using h)
    simpa using this
theorem list_ext : ∀ {a b : List Int}, a.length = b.length → (∀ i, i < a.length → a.getD i 0 = b.getD i 0) → a = b
  | [], [], _, _ => rfl
  | [], _ :: _, h, _ => by simp at h
  | _ :: _, [], h, _ => by simp at h
  | x :: a, y :: b, h, e => by
    have h0 : x = y := by simpa using e 0 (by simp)
    rw [h0, list_ext (a := a) (b := b) (by simpa using h) fun i hi => by simpa using e (i + 1) (by simpa using hi)]
abbrev LL (L : List (List Int)) : List D := L.map fun l => D.sl true 1 (ints l)
abbrev LLs (L : List (List Int)) : List D := L.map fun l => D.sl false 1 (ints l)
theorem erases_LL (L : List (List Int)) : D.erases (LL L) = LLs L := by
  rw [D.erases_eq, List.map_map]
  refine List.map_congr_left fun l _ => ?_
  simp only [Function.comp_apply, D.erase, erases_ints]
theorem erases_LLs (L : List (List Int)) : D.erases (LLs L) = LLs L := by
  rw [D.erases_eq, List.map_map]
  refine List.map_congr_left fun l _ => ?_
  simp only [Function.comp_apply, D.erase, erases_ints]
theorem solids_LL (L : List (List Int)) : D.solids (LL L) = true := by
  unfold LL
  induction L with
  | nil => rfl
  | cons a l ih => simp only [List.map_cons, D.solids, D.solid, solids_ints, ih, Bool.and_self]
theorem LL_get {L : List (List Int)} {i : Nat} (h : i < L.length) : (L.map fun l => D.sl true 1 (ints l))[i]? = some (.sl true 1 (ints (L.getD i []))) := map_get [] h
theorem LLs_get {L : List (List Int)} {i : Nat} (h : i < L.length) : (L.map fun l => D.sl false 1 (ints l))[i]? = some (.sl false 1 (ints (L.getD i []))) := map_get [] h
theorem own_LL {id sz : Nat} {l l' : List (List Int)} (h : l = l') : AV.own id (.sl true sz (LL l)) = AV.own id (.sl true sz (LL l')) := by rw [h]
section
variable {d : Nat} {s x : Operand} {T : TypeId} {rd rd2 : List Nat} {up up2 : List (Nat × AV)} {ty : TypeId} {pos : String} {aft : Array Edge} {g : Option (Nat × Bool)}
theorem step_append_int1 {l : List Int} {v : Int} [hT : SliceTy P T 1] (h : Give st s rd (.sl true 1 (ints l)) up) (hv : View (puts st up) x rd2 1 [.lit (.int .i64 v)]) (hb : l.length ≤ 1099511627000) (hd : n d = true) :
    Step P n ⟨some d, .call ⟨.builtin .append, #[s, x], #[T, T]⟩, ty, pos, aft, g⟩ nid st (rd ++ rd2) (up ++ [(d, .own nid (.sl true 1 (ints (l ++ [v]))))]) := by
  have := step_append_view (P := P) (n := n) (nid := nid) (d := d) (T := T) (ty := ty) (pos := pos) (aft := aft) (g := g) h hv (by simp [D.plain]) (by simp; omega) hd
  rwa [show ints l ++ [.lit (.int .i64 v)] = ints (l ++ [v]) by simp [ints]] at this
theorem step_append_ints_sh {t : Nat} {l m : List Int} [hT : SliceTy P T 1] (h : Give st s rd (.sl true 1 (ints l)) up) (hv : puts st up t = .c (.sl false 1 (ints m))) (hb : l.length + m.length ≤ 1099511627776) (hd : n d = true) :
    Step P n ⟨some d, .call ⟨.builtin .append, #[s, .tmp t], #[T, T]⟩, ty, pos, aft, g⟩ nid st (rd ++ [t]) (up ++ [(d, .own nid (.sl true 1 (ints (l ++ m))))]) := by
  have := step_append_sh (P := P) (n := n) (nid := nid) (d := d) (T := T) (ty := ty) (pos := pos) (aft := aft) (g := g) h hv (by simpa using hb) hd
  rwa [show ints l ++ ints m = ints (l ++ m) by simp [ints]] at this
theorem step_append_sh0 {t : Nat} {sz : Nat} {ds : List D} [hT : SliceTy P T sz] (h : Give st s rd (.sl true sz []) up) (hv : puts st up t = .c (.sl false sz ds)) (hb : ds.length ≤ 1099511627776) (hd : n d = true) :
    Step P n ⟨some d, .call ⟨.builtin .append, #[s, .tmp t], #[T, T]⟩, ty, pos, aft, g⟩ nid st (rd ++ [t]) (up ++ [(d, .own nid (.sl true sz ds))]) := by
  have := step_append_sh (P := P) (n := n) (nid := nid) (d := d) (T := T) (ty := ty) (pos := pos) (aft := aft) (g := g) h hv (by simpa using hb) hd
  simpa only [List.nil_append] using this
theorem step_append_give0 {sz : Nat} {ds : List D} [hT : SliceTy P T sz] (h : Give st s rd (.sl true sz []) up) (hv : Give (puts st up) x rd2 (.sl true sz ds) up2) (hb : ds.length ≤ 1099511627776) (hd : n d = true) :
    Step P n ⟨some d, .call ⟨.builtin .append, #[s, x], #[T, T]⟩, ty, pos, aft, g⟩ nid st (rd ++ rd2) ((up ++ up2) ++ [(d, .own nid (.sl true sz ds))]) := by
  have := step_append_give (P := P) (n := n) (nid := nid) (d := d) (T := T) (ty := ty) (pos := pos) (aft := aft) (g := g) h hv (by simpa using hb) hd
  simpa only [List.nil_append] using this
theorem step_append_ints_view {l m : List Int} [hT : SliceTy P T 1] (h : Give st s rd (.sl true 1 (ints l)) up) (hv : View (puts st up) x rd2 1 (ints m)) (hb : l.length + m.length ≤ 1099511627776) (hd : n d = true) :
    Step P n ⟨some d, .call ⟨.builtin .append, #[s, x], #[T, T]⟩, ty, pos, aft, g⟩ nid st (rd ++ rd2) (up ++ [(d, .own nid (.sl true 1 (ints (l ++ m))))]) := by
  have := step_append_view (P := P) (n := n) (nid := nid) (d := d) (T := T) (ty := ty) (pos := pos) (aft := aft) (g := g) h hv (plain_ints m) (by simpa using hb) hd
  rwa [show ints l ++ ints m = ints (l ++ m) by simp [ints]] at this
theorem step_append_LL1 {L : List (List Int)} {l : List Int} [hT : SliceTy P T 1] (h : Give st s rd (.sl true 1 (LL L)) up) (hv : Give (puts st up) x rd2 (.sl true 1 [.sl true 1 (ints l)]) up2) (hb : L.length ≤ 1099511627000) (hd : n d = true) :
    Step P n ⟨some d, .call ⟨.builtin .append, #[s, x], #[T, T]⟩, ty, pos, aft, g⟩ nid st (rd ++ rd2) ((up ++ up2) ++ [(d, .own nid (.sl true 1 (LL (L ++ [l]))))]) := by
  have := step_append_give (P := P) (n := n) (nid := nid) (d := d) (T := T) (ty := ty) (pos := pos) (aft := aft) (g := g) h hv (by simp; omega) hd
  rwa [show LL L ++ [.sl true 1 (ints l)] = LL (L ++ [l]) by simp [LL]] at this
end
class BoolTy (P : Program) (T : TypeId) : Prop where
  out : P.underlying T = some .bool
theorem run_equal_bool {T : TypeId} [h : BoolTy P T] (a b : Bool) (w : World) : (Op.equal T (.bool a) (.bool b)).run P w = .ok (a == b) w := run_equalIn_bool w 9999 T a b h.out
theorem step_eql_bool {d : Nat} {T T' : TypeId} {x y : Operand} {a b : Bool} {ty pos aft g} [BoolTy P T] (hx : Lit st x (.bool a)) (hy : Lit st y (.bool b)) (hd : n d = true) : Step P n ⟨some d, .binOp .eql T x y T', ty, pos, aft, g⟩ nid st (rdOf x ++ rdOf y) [(d, .c (.lit (.bool (decide (a = b)))))] :=
  step_bin hx hy rfl (fun w => by simp [eqGuard_bool, binOp, run_equal_bool]; rfl) hd
theorem step_neq_bool {d : Nat} {T T' : TypeId} {x y : Operand} {a b : Bool} {ty pos aft g} [BoolTy P T] (hx : Lit st x (.bool a)) (hy : Lit st y (.bool b)) (hd : n d = true) : Step P n ⟨some d, .binOp .neq T x y T', ty, pos, aft, g⟩ nid st (rdOf x ++ rdOf y) [(d, .c (.lit (.bool (decide (a ≠ b)))))] :=
  step_bin hx hy rfl (fun w => by simp [eqGuard_bool, binOp, run_equal_bool, bne]; rfl) hd
theorem flat_ints (l : List Int) : (l.map fun x => [D.lit (.int .i64 x)]).flatten = ints l := by
  induction l with
  | nil => rfl
  | cons a l ih => rw [List.map_cons, List.flatten_cons, ih]; rfl
theorem ty_ints {t e ds} (hu : P.underlying t = some (.slice e)) (he : P.underlying e = some (.int .i64)) (hc : P.cellsOf e = 1) (h : Ty P t ds) :
    ∃ (l : List Int), ds = [.sl false 1 (ints l)] ∧ l.length ≤ maxLen ∧ (∀ x ∈ l, -9223372036854775808 ≤ x ∧ x ≤ 9223372036854775807) := by
  obtain ⟨parts, ee, h3, h4⟩ := ty_slice hu h
  subst ee
  obtain ⟨l, rfl, hl⟩ := tyL_map (fun x : Int => [D.lit (.int .i64 x)]) (fun x => -9223372036854775808 ≤ x ∧ x ≤ 9223372036854775807) h3 (fun p hp => by
    obtain ⟨n, e, hn⟩ := ty_int he hp
    exact ⟨n, e, wf_i64 hn⟩)
  rw [hc, flat_ints]
  exact ⟨l, rfl, by simpa using h4, hl⟩
theorem sees_agg {t ts fs as} (hu : P.underlying t = some (.struct fs)) (h : Sees P (t :: ts) as) : ∃ ds as', as = .sh (.agg ds) :: as' ∧ TyF P (fs.toList.map (·.type)) ds ∧ Sees P ts as' := by
  cases h with
  | one h1 => exact absurd hu (h1 _)
  | agg h1 h2 h3 => rw [hu] at h1; cases h1; exact ⟨_, _, rfl, ty_struct hu h2, h3⟩
end
end Go.Pv
namespace Go.Pv
open Go.RowKit
section
variable {P : Program} {n : NN} {st : Nat → AV} {nx nid : Nat} {dr : Bool} {ops l : List Oper} {pre : List (List Nat × List Nat)} {Q : (Nat → AV) → Nat → Prop}
def RunU (dr : Bool) (P : Program) (n : NN) (ops l : List Oper) (st : Nat → AV) (nx : Nat) (pre : List (List Nat × List Nat)) (Q : (Nat → AV) → Nat → Prop) : Prop :=
  if dr = true then RunD P n ops l st nx pre Q else RunL P n ops.toArray l st nx Q
theorem RunL.more {ops : Array Oper} (h : RunL P n ops l st (nx + 1) Q) : RunL P n ops l st nx Q :=
  fun f a w Q' hn hr hQ => h f a w Q' hn (hr.weaken fun i hi => by omega) hQ
theorem RunU.nilL (h : Q st nx) : RunU false P n ops [] st nx pre Q := RunL.nil h
theorem RunU.nilD (hp : pairsOk ops pre.reverse = true) (h : Q st nx) : RunU true P n ops [] st nx pre Q := RunD.nil hp h
theorem RunU.cons {d op ty pos aft rd up} (hs : Step P n ⟨d, op, ty, pos, aft, none⟩ nx st rd up) (h : RunU dr P n ops l (puts st up) (nx + 1) ((rdE rd, fpE (up.map Prod.fst)) :: pre) Q) : RunU dr P n ops (⟨d, op, ty, pos, aft, none⟩ :: l) st nx pre Q := by
  cases dr
  · exact RunL.cons hs h
  · exact RunD.cons hs h
theorem RunU.consW {d op ty pos aft wk rd up} (hs : StepW P n ⟨d, op, ty, pos, aft, none⟩ nx st wk rd up) (h : RunU dr P n ops l (puts st up) (nx + 1) ((wkE wk ++ rdE rd, fpE (up.map Prod.fst)) :: pre) Q) : RunU dr P n ops (⟨d, op, ty, pos, aft, none⟩ :: l) st nx pre Q := by
  cases dr
  · exact RunL.cons (rd := rd ++ wk) (fun X st' h1 hX => hs X st' (fun s h => h1 s (List.mem_append_left _ h)) (fun s h => by rw [h1 s (List.mem_append_right _ h)]) hX) h
  · exact RunD.consW hs h
theorem RunU.consK {d op ty pos aft rd up0 x v up} (hs : Step P n ⟨d, op, ty, pos, aft, none⟩ nx st rd up0) (he : up0 = (x, v) :: up) (hx : rd.contains x = true) (hv : hdr v = hdr (st x))
    (h : RunU dr P n ops l (puts st ((x, v) :: up)) (nx + 1) ((rdE rd, (2 * x) :: fpE (up.map Prod.fst)) :: pre) Q) : RunU dr P n ops (⟨d, op, ty, pos, aft, none⟩ :: l) st nx pre Q := by
  subst he
  cases dr
  · exact RunL.cons hs h
  · exact RunD.consK hs hx hv h
theorem RunU.doit {d op ty pos aft j b t rd up} (hd : (ops[j]?).bind (·.dst) = some t) (ht : st t = .c (.lit (.bool b))) (hs : Step P n ⟨d, op, ty, pos, aft, some (j, b)⟩ nx st rd up)
    (h : RunU dr P n ops l (puts st up) (nx + 1) ((rdE (t :: rd), fpE (up.map Prod.fst)) :: pre) Q) : RunU dr P n ops (⟨d, op, ty, pos, aft, some (j, b)⟩ :: l) st nx pre Q := by
  cases dr
  · exact RunL.doit (by simpa using hd) ht hs h
  · exact RunD.doit hd ht hs h
theorem RunU.pass {d op ty pos aft j b b' t} (hd : (ops[j]?).bind (·.dst) = some t) (ht : st t = .c (.lit (.bool b))) (hb : b = !b') (hdn : n d = true)
    (h : RunU dr P n ops l (put st d (.tup [])) (nx + 1) ((rdE [t], fpE [d]) :: pre) Q) : RunU dr P n ops (⟨some d, op, ty, pos, aft, some (j, b')⟩ :: l) st nx pre Q := by
  cases dr
  · exact RunL.pass (by simpa using hd) ht hb hdn (RunL.more h)
  · exact RunD.pass hd ht hb hdn h
theorem RunU.pass_undef {d op ty pos aft j b' t} (hd : (ops[j]?).bind (·.dst) = some t) (ht : st t = .tup []) (hdn : n d = true)
    (h : RunU dr P n ops l (put st d (.tup [])) (nx + 1) ((rdE [t], fpE [d]) :: pre) Q) : RunU dr P n ops (⟨some d, op, ty, pos, aft, some (j, b')⟩ :: l) st nx pre Q := by
  cases dr
  · exact RunL.pass_undef (by simpa using hd) ht hdn (RunL.more h)
  · exact RunD.pass_undef hd ht hdn h
theorem RunU.guard {d op ty pos aft j b' t} {b : Bool} (hd : (ops[j]?).bind (·.dst) = some t) (ht : st t = .c (.lit (.bool b)))
    (h1 : b = true → RunU dr P n ops (⟨d, op, ty, pos, aft, some (j, b')⟩ :: l) (put st t (.c (.lit (.bool true)))) nx pre Q)
    (h2 : b = false → RunU dr P n ops (⟨d, op, ty, pos, aft, some (j, b')⟩ :: l) (put st t (.c (.lit (.bool false)))) nx pre Q) : RunU dr P n ops (⟨d, op, ty, pos, aft, some (j, b')⟩ :: l) st nx pre Q := by
  have _ := hd
  cases b with
  | true => have := h1 rfl; rwa [put_eq_self ht] at this
  | false => have := h2 rfl; rwa [put_eq_self ht] at this
theorem RunU.guard_dec {d op ty pos aft j b' t} {c : Prop} {hc : Decidable c} (hd : (ops[j]?).bind (·.dst) = some t) (ht : st t = .c (.lit (.bool (@decide c hc))))
    (h1 : c → RunU dr P n ops (⟨d, op, ty, pos, aft, some (j, b')⟩ :: l) (put st t (.c (.lit (.bool true)))) nx pre Q)
    (h2 : ¬ c → RunU dr P n ops (⟨d, op, ty, pos, aft, some (j, b')⟩ :: l) (put st t (.c (.lit (.bool false)))) nx pre Q) : RunU dr P n ops (⟨d, op, ty, pos, aft, some (j, b')⟩ :: l) st nx pre Q :=
  RunU.guard hd ht (fun h => h1 (of_decide_eq_true h)) (fun h => h2 (of_decide_eq_false h))
theorem RunU.guard_not {d op ty pos aft j b' t} {c : Prop} {hc : Decidable c} (hd : (ops[j]?).bind (·.dst) = some t) (ht : st t = .c (.lit (.bool (!@decide c hc))))
    (h1 : ¬ c → RunU dr P n ops (⟨d, op, ty, pos, aft, some (j, b')⟩ :: l) (put st t (.c (.lit (.bool true)))) nx pre Q)
    (h2 : c → RunU dr P n ops (⟨d, op, ty, pos, aft, some (j, b')⟩ :: l) (put st t (.c (.lit (.bool false)))) nx pre Q) : RunU dr P n ops (⟨d, op, ty, pos, aft, some (j, b')⟩ :: l) st nx pre Q :=
  RunU.guard hd ht (fun h => h1 (of_decide_eq_false (by simpa using h))) (fun h => h2 (of_decide_eq_true (by simpa using h)))
theorem WpA.regionU {Q : Exit → (Nat → AV) → Nat → Prop} {id : Nat} (h : RunU false P n l l st nx [] fun s k => Q .normal s k) : WpA P n (.region id l.toArray false) st nx Q := WpA.region h
theorem WpA.drawU [hm : Mixed P] {Q : Exit → (Nat → AV) → Nat → Prop} {id : Nat} (h : RunU true P n l l st nx [] fun s k => Q .normal s k) : WpA P n (.region id l.toArray true) st nx Q := WpA.draw h
end
end Go.Pv
namespace Go.Pv
open Go.RowKit
section
variable {P : Program} {n : NN} {nid : Nat} {st : Nat → AV} {f : Fr} {X : Nat → Prop} {a : Act} {w : World} {ρ : Nat → Rho} {L : Nat → List Nat} {M : List Nat}
theorem WpA.loop_slots2 {c : Code} {nx : Nat} {Q : Exit → (Nat → AV) → Nat → Prop} (slots : Nat → Nat → List (Nat × AV)) (C : Nat → Prop) (μ : Nat → Nat) (i0 id0 : Nat) (hC : C i0) (h0 : Has st (slots i0 id0))
    (round : ∀ i id s k, C i → WpA P n c (puts s (slots i id)) k (Then (fun s' _ => ∃ i', C i' ∧ (∃ id', Has s' (slots i' id')) ∧ μ i' < μ i) Q)) : WpA P n (.loop c) st nx Q :=
  WpA.loop_slots (ι := Nat × Nat) (fun p => slots p.1 p.2) (fun p => C p.1) (fun p => μ p.1) (i0, id0) hC h0 fun p s k hp =>
    (round p.1 p.2 s k hp).mono fun e s' k' q => by
      cases e with
      | normal => obtain ⟨i', q1, ⟨id', q2⟩, q3⟩ := q; exact ⟨(i', id'), q1, q2, q3⟩
      | _ => exact q
inductive IoAt (st : Nat → AV) : Operand → Nat → Nat → List Nat → D → D → List Nat → Prop
  | sl {t id sz cs} : st t = .own id (.sl true sz cs) → IoAt st (.tmp t) t id [] (.sl true sz cs) (.sl true sz cs) [t]
  | pt {t id cs} : st t = .own id (.pt true cs) → IoAt st (.tmp t) t id [] (.pt true cs) (.pt true cs) [t]
  | als {t x id path dd sz cs} : st t = .als x id path → st x = .own id dd → dd.nav path = some (.sl true sz cs) → IoAt st (.tmp t) x id path dd (.sl true sz cs) [t, x]
  | ptr {t x id cs} : st t = .ptr x id [] 0 → st x = .own id (.pt true cs) → IoAt st (.tmp t) x id [] (.pt true cs) (.pt true cs) [t, x]
theorem IoAt.agree {st' : Nat → AV} {x : Operand} {xr id : Nat} {path rd : List Nat} {dd d : D} (h : IoAt st x xr id path dd d rd) (hs : ∀ s ∈ rd, st' s = st s) : IoAt st' x xr id path dd d rd := by
  cases h with
  | sl h => exact .sl ((hs _ (by simp)).trans h)
  | pt h => exact .pt ((hs _ (by simp)).trans h)
  | als h1 h2 h3 => exact .als ((hs _ (by simp)).trans h1) ((hs _ (by simp)).trans h2) h3
  | ptr h1 h2 => exact .ptr ((hs _ (by simp)).trans h1) ((hs _ (by simp)).trans h2)
theorem IoAt.own {x : Operand} {xr id : Nat} {path rd : List Nat} {dd d : D} (h : IoAt st x xr id path dd d rd) : st xr = .own id dd ∧ dd.nav path = some d ∧ xr ∈ rd := by
  cases h <;> exact ⟨by assumption, by first | rfl | assumption, by simp⟩
theorem named {F : Nat → Prop} {w : World} {d : D} {cs : List D} {r : Rho} {v : Value} {L1 : List Nat} (hk : d.kids = some cs) (h : RD F w d r v L1) : v = r [] := by
  cases d with
  | lit v => simp [D.kids] at hk
  | hole => simp [D.kids] at hk
  | fn g cs => simp [D.kids] at hk
  | sl own sz cs' => cases own <;> simp [D.kids] at hk; simp only [RD] at h; exact h.1
  | pt own cs' => cases own <;> simp [D.kids] at hk; simp only [RD] at h; exact h.1
theorem IoAt.kids {x : Operand} {xr id : Nat} {path rd : List Nat} {dd d : D} (h : IoAt st x xr id path dd d rd) : ∃ cs, d.kids = some cs := by
  cases h <;> exact ⟨_, rfl⟩
theorem IoAt.eval (hr : RepO f X st a w ρ L) {x : Operand} {xr id : Nat} {path rd : List Nat} {dd d : D} (h : IoAt st x xr id path dd d rd) : a.eval x = ρ id path := by
  cases h with
  | @sl _ _ sz cs h =>
    have := hr.slots xr
    rw [h] at this
    simp only [SR] at this
    exact named (cs := cs) rfl this
  | @pt _ _ cs h =>
    have := hr.slots xr
    rw [h] at this
    simp only [SR] at this
    exact named (cs := cs) rfl this
  | @als t x id path dd sz cs h1 h2 h3 =>
    have := hr.slots t
    rw [h1] at this
    simp only [SR] at this
    exact this.2
  | @ptr t _ _ cs h1 h2 =>
    have ht := hr.slots t
    rw [h1] at ht
    simp only [SR] at ht
    obtain ⟨_, b, hb, e0⟩ := ht
    have hx := hr.slots xr
    rw [h2] at hx
    simp only [SR] at hx
    simp only [RD] at hx
    obtain ⟨e1, g, us, L1, ty, e3, _⟩ := hx
    have e1 : tmp a xr = ρ id [] := e1
    rw [← e1, e3] at hb ⊢
    simp only [baseOf, Option.some.injEq] at hb
    show tmp a t = _
    rw [e0, ← hb, add_zero']
theorem nav_LL {L : List (List Int)} {j : Nat} (h : j < L.length) : (D.sl true 1 (LL L)).nav ([] ++ [j]) = some (.sl true 1 (ints (L.getD j []))) := by
  simp only [List.nil_append, D.nav, D.kids, LL, LL_get h]
theorem idx_lit (k : Nat) : (OfNat.ofNat k : Int) = ((OfNat.ofNat k : Nat) : Int) := rfl
theorem nav_snoc : ∀ (path : List Nat) (dd d1 : D) (cs : List D) (c : D) (j : Nat), dd.nav path = some d1 → d1.kids = some cs → cs[j]? = some c → dd.nav (path ++ [j]) = some c
  | [], dd, d1, cs, c, j, h, hk, hc => by
    simp only [D.nav, Option.some.injEq] at h
    subst h
    simp only [List.nil_append, D.nav, hk, hc]
  | k :: path, dd, d1, cs, c, j, h, hk, hc => by
    simp only [D.nav] at h
    cases hk1 : dd.kids with
    | none => simp [hk1] at h
    | some cs1 =>
      simp only [hk1] at h
      cases hc1 : cs1[k]? with
      | none => simp [hc1] at h
      | some c1 =>
        simp only [hc1] at h
        simp only [List.cons_append, D.nav, hk1, hc1]
        exact nav_snoc path c1 d1 cs c j h hk hc
theorem nav_LL_at {path : List Nat} {dd : D} {L : List (List Int)} {j : Nat} (h : dd.nav path = some (.sl true 1 (LL L))) (hj : j < L.length) : dd.nav (path ++ [j]) = some (.sl true 1 (ints (L.getD j []))) :=
  nav_snoc path dd _ _ _ j h rfl (by simp only [LL, LL_get hj])
end
end Go.Pv
namespace Go.Pv
open Go.RowKit
def CallNG (own : Bool) (P : Program) (K : FuncId) (d : D) (args : List Arg) (rs : List V) (d' : D) : Prop :=
  ∀ (w : World) (v : Value) (vs : List Value) (M0 M1 : List Nat) (F : Nat → Prop) (r : Rho), (∀ g, F g → g < w.heap.size ∧ g ∉ M0 ++ M1) → RD F w d r v M0 → ArgsR F w args vs M1 → (M0 ++ M1).Nodup → (∀ g ∈ M0 ++ M1, g < w.heap.size) →
    Calls P K (v :: vs).toArray w fun e w' => ∃ us Lr Lo, e = .returned (retVal us) ∧ Keep w (M0 ++ M1) w' ∧ VRs (Res own F) w' rs us Lr ∧ RD (Res own F) w' d' r v Lo ∧ (Lr ++ Lo).Nodup ∧
      ∀ g ∈ Lr ++ Lo, g < w'.heap.size ∧ (g ∈ M0 ++ M1 ∨ w.heap.size ≤ g)
section
variable {P : Program} {n : NN} {nid : Nat} {st : Nat → AV} {f : Fr} {X : Nat → Prop} {a : Act} {w : World} {ρ : Nat → Rho} {L : Nat → List Nat} {M : List Nat}
def AV.root : AV → Nat → Prop
  | .own i _, k => i = k
  | _, _ => False
def DoneN (P : Program) (fn : Func) (d : D) (args : List Arg) (rs : List V) (d' : D) (e : Exit) (s : Nat → AV) (_ : Nat) : Prop :=
  (e = .normal ∨ e = .ret) ∧ ∃ s', Ress P s fn.results.toList rs s' ∧ s' 0 = .own 0 d'
theorem DoneN.ret {fn : Func} {d : D} {args : List Arg} {rs rs' : List V} {d' d1 : D} {s s' : Nat → AV} {k : Nat} (hr : Ress P s fn.results.toList rs' s') (ho : s' 0 = .own 0 d1) (h : rs' = rs) (h' : d1 = d') : DoneN P fn d args rs d' .ret s k := by
  subst h h'; exact ⟨.inr rfl, s', hr, ho⟩
theorem DoneN.normal {fn : Func} {d : D} {args : List Arg} {rs rs' : List V} {d' d1 : D} {s s' : Nat → AV} {k : Nat} (hr : Ress P s fn.results.toList rs' s') (ho : s' 0 = .own 0 d1) (h : rs' = rs) (h' : d1 = d') : DoneN P fn d args rs d' .normal s k := by
  subst h h'; exact ⟨.inl rfl, s', hr, ho⟩
end
end Go.Pv
