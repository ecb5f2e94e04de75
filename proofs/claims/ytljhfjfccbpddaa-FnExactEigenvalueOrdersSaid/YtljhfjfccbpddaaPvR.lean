/- From a reading of a law's arguments to data, and from the law's contract to its row. No condition. -/
import Derived.Test.YtljhfjfccbpddaaPvO
import Derived.ProofKit
import Derived.Deep.Slices
namespace Go.Pv
set_option linter.unusedVariables false
set_option linter.unusedSimpArgs false
open Go.RowKit Go.ChangeShapes Go.WideShapes Go.Deep

mutual
/-- What data a type's cells are. -/
inductive Ty (P : Program) : TypeId → List D → Prop
  | int {t k n} : P.underlying t = some (.int k) → (Lit.int k n).wf = true → Ty P t [.lit (.int k n)]
  | bool {t b} : P.underlying t = some .bool → Ty P t [.lit (.bool b)]
  | str {t s} : P.underlying t = some .string → s.size ≤ maxLen → Ty P t [.lit (.string s)]
  | slice {t e parts} : P.underlying t = some (.slice e) → TyL P e parts → parts.length ≤ maxLen → Ty P t [.sl false (P.cellsOf e) parts.flatten]
  | struct {t fs ds} : P.underlying t = some (.struct fs) → TyF P (fs.toList.map (·.type)) ds → Ty P t ds
inductive TyL (P : Program) : TypeId → List (List D) → Prop
  | nil {e} : TyL P e []
  | cons {e p ps} : Ty P e p → TyL P e ps → TyL P e (p :: ps)
inductive TyF (P : Program) : List TypeId → List D → Prop
  | nil : TyF P [] []
  | cons {t ts ds ds'} : Ty P t ds → TyF P ts ds' → TyF P (t :: ts) (ds ++ ds')
end

/-- The fields lie one behind the other. -/
def contig (P : Program) : List Field → Nat → Nat → Bool
  | [], at_, n => at_ == n
  | f :: fs, at_, n => f.offset == at_ && contig P fs (at_ + P.cellsOf f.type) n
/-- A type of numbers, strings, slices and structures alone. -/
def plainB (P : Program) : Nat → TypeId → Bool
  | 0, _ => false
  | n + 1, t => match P.underlying t with
    | some .bool => true
    | some (.int _) => true
    | some .string => true
    | some (.slice e) => plainB P n e
    | some (.struct fs) => contig P fs.toList 0 (P.cellsOf t) && fs.toList.all fun f => plainB P n f.type
    | _ => false

section
variable {H : Type} {enc : TypeId × Value → H} {P : Program} {w : World} {base : Nat} {spare : Nat → Bool} {held : Bool} {F : Nat → Prop}

theorem rds_app {r : Rho} : ∀ {ds ds' : List D} {us us' : List Value} {k : Nat}, RDs F w ds k r us [] → (∀ k, RDs F w ds' k r us' []) → RDs F w (ds ++ ds') k r (us ++ us') []
  | [], ds', us, us', k, h, h' => by simp only [RDs] at h; obtain ⟨rfl, _⟩ := h; exact h' k
  | d :: ds, ds', us, us', k, h, h' => by
    simp only [RDs] at h
    obtain ⟨u, v, L1, L2, rfl, e, h1, h2⟩ := h
    obtain ⟨rfl, rfl⟩ := List.append_eq_nil_iff.1 e.symm
    simp only [List.cons_append, RDs]
    exact ⟨u, v ++ us', [], [], rfl, rfl, h1, rds_app (k := k + 1) h2 h'⟩

theorem cell_lt {w : World} {a : Addr} {v : Value} (h : w.cell? a = some v) : a.block < w.heap.size := by
  unfold World.cell? at h
  cases hb : w.heap[a.block]? with
  | none => simp [hb] at h
  | some o => exact (Array.getElem?_eq_some_iff.1 hb).1

/-- A list of elements read one after the other: their data and their cells. -/
theorem elems_rd {e : TypeId} {a : Addr} {n : Nat} (ih : ∀ {cs x}, DataW.trod enc P w base spare held n e cs = some x → ∃ ds, Ty P e ds ∧ ∀ k r, RDs (fun g => g < w.heap.size) w ds k r cs []) :
    ∀ (len : Nat), (∀ i, i < len → ∃ cs x, w.cells? base (a.add (i * P.cellsOf e)) (P.cellsOf e) = some cs ∧ DataW.trod enc P w base spare held n e cs = some x) →
      ∃ parts us, TyL P e parts ∧ parts.length = len ∧ us.length = len * P.cellsOf e ∧ (∀ k r, RDs (fun g => g < w.heap.size) w parts.flatten k r us []) ∧ ∀ (j : Nat) (u : Value), us[j]? = some u → w.cell? (a.add j) = some u
  | 0, _ => ⟨[], [], .nil, rfl, by simp, fun k r => by simp [RDs], fun j u h => by simp at h⟩
  | len + 1, h => by
    obtain ⟨parts, us, h1, h2, h3, h4, h5⟩ := elems_rd ih len fun i hi => h i (by omega)
    obtain ⟨cs, x, hc, hx⟩ := h len (by omega)
    obtain ⟨ds, hd, hr⟩ := ih hx
    obtain ⟨_, hl, hg⟩ := World.cells?_some hc
    have snoc : ∀ {ps : List (List D)}, TyL P e ps → TyL P e (ps ++ [ds]) := by
      intro ps hp
      induction ps with
      | nil => exact .cons hd .nil
      | cons p ps ihp => cases hp with | cons a b => exact .cons a (ihp b)
    refine ⟨parts ++ [ds], us ++ cs, snoc h1, by simp [h2], by rw [List.length_append, h3, hl, Nat.succ_mul], fun k r => ?_, fun j u hj => ?_⟩
    · rw [List.flatten_append]
      exact rds_app (k := k) (h4 k r) fun k => by simpa using hr k r
    · rw [List.getElem?_append] at hj
      split at hj
      · exact h5 j u hj
      · rename_i hlt
        have hjlt : j - us.length < cs.length := (List.getElem?_eq_some_iff.1 hj).1
        have := hg (j - us.length) (by omega)
        rw [add_add, hj] at this
        rw [← this]
        congr 2
        omega

theorem fields_rd : ∀ (fs : List Field) (cs : List Value) (at_ : Nat), contig P fs at_ (at_ + cs.length) = true →
      (∀ f ∈ fs, ∃ ds, Ty P f.type ds ∧ ∀ k r, RDs F w ds k r ((cs.drop (f.offset - at_)).take (P.cellsOf f.type)) []) →
      ∃ ds, TyF P (fs.map (·.type)) ds ∧ ∀ k r, RDs F w ds k r cs []
  | [], cs, at_, h, _ => by
    simp [contig] at h
    subst h
    exact ⟨[], .nil, fun k r => by simp [RDs]⟩
  | f :: fs, cs, at_, h, hx => by
    simp only [contig, Bool.and_eq_true, beq_iff_eq] at h
    obtain ⟨h1, h2⟩ := h
    have mono : ∀ (fs : List Field) (a m : Nat), contig P fs a m = true → a ≤ m ∧ ∀ f ∈ fs, a ≤ f.offset := by
      intro fs
      induction fs with
      | nil => intro a m h; simp [contig] at h; exact ⟨by omega, by simp⟩
      | cons f fs ih =>
        intro a m h
        simp only [contig, Bool.and_eq_true, beq_iff_eq] at h
        have := ih _ _ h.2
        exact ⟨by omega, fun g hg => by rcases List.mem_cons.1 hg with rfl | hg; · omega
                                        · have := this.2 g hg; omega⟩
    have hm := mono _ _ _ h2
    obtain ⟨d1, t1, r1⟩ := hx f (by simp)
    have hlen : at_ + P.cellsOf f.type + (cs.drop (P.cellsOf f.type)).length = at_ + cs.length := by
      rw [List.length_drop]; omega
    obtain ⟨d2, t2, r2⟩ := fields_rd fs (cs.drop (P.cellsOf f.type)) (at_ + P.cellsOf f.type) (by rw [hlen]; exact h2) (fun g hg => by
      obtain ⟨d, t, r⟩ := hx g (List.mem_cons_of_mem _ hg)
      refine ⟨d, t, fun k ρ => ?_⟩
      have := r k ρ
      rw [List.drop_drop, show P.cellsOf f.type + (g.offset - (at_ + P.cellsOf f.type)) = g.offset - at_ by have := hm.2 g hg; omega]
      exact this)
    refine ⟨d1 ++ d2, .cons t1 t2, fun k r => ?_⟩
    have h3 := r1 k r
    rw [h1, Nat.sub_self, List.drop_zero] at h3
    have := rds_app (k := k) h3 fun k => r2 k r
    rwa [List.take_append_drop] at this

/-- A READING AS DATA. -/
theorem trod_rd : ∀ (N : Nat) {t : TypeId} {fuel : Nat} {cs : List Value} {x : DataW H × List MemPlace}, plainB P N t = true → DataW.trod enc P w base spare held fuel t cs = some x →
    ∃ ds, Ty P t ds ∧ ∀ k r, RDs (fun g => g < w.heap.size) w ds k r cs []
  | 0, _, _, _, _, h, _ => by simp [plainB] at h
  | N + 1, t, fuel, cs, x, h, hx => by
    unfold plainB at h
    cases hu : P.underlying t with
    | none => simp [hu] at h
    | some u =>
      cases u with
      | bool =>
        obtain ⟨b, rfl, _⟩ := DataW.trod_bool hu hx
        exact ⟨_, .bool hu, fun k r => by simp only [RDs, RD]; exact ⟨_, [], [], [], rfl, rfl, ⟨rfl, rfl, rfl⟩, rfl, rfl⟩⟩
      | int k =>
        obtain ⟨b, rfl, _, hw⟩ := DataW.trod_int hu hx
        exact ⟨_, .int hu hw, fun k r => by simp only [RDs, RD]; exact ⟨_, [], [], [], rfl, rfl, ⟨rfl, rfl, rfl⟩, rfl, rfl⟩⟩
      | string =>
        obtain ⟨b, rfl, _, hw⟩ := DataW.trod_string hu hx
        exact ⟨_, .str hu hw, fun k r => by simp only [RDs, RD]; exact ⟨_, [], [], [], rfl, rfl, ⟨rfl, rfl, rfl⟩, rfl, rfl⟩⟩
      | slice e =>
        simp only [hu] at h
        rcases Go.Deep.open_slice hu hx with ⟨rfl, _⟩ | ⟨a, len, cap, m, n, Df, Pl, rfl, _, hl, hm, hmm, _, hall⟩
        · refine ⟨_, .slice hu .nil (Nat.zero_le _), fun k r => ?_⟩
          simp only [RDs, RD, List.flatten_nil]
          exact ⟨_, [], [], [], rfl, rfl, ⟨rfl, [], ⟨none, 0, 0, rfl, by simp, Nat.le_refl _, Nat.zero_le _, fun h => absurd rfl h⟩, by simp⟩, by simp⟩
        · have hml : len ≤ m := by rw [hmm]; split <;> omega
          obtain ⟨parts, us, h1, h2, h3, h4, h5⟩ := elems_rd (fun hx => trod_rd N h hx) len (a := a) (n := n) (fun i hi => by
            obtain ⟨cs', k1, k2⟩ := hall i (by omega)
            exact ⟨cs', _, k1, k2⟩)
          refine ⟨_, .slice hu h1 (by omega), fun k r => ?_⟩
          simp only [RDs, RD]
          refine ⟨_, [], [], [], rfl, rfl, ⟨rfl, us, ⟨some a, len, cap, rfl, h3.symm, hl, hm, fun hne => ⟨a, rfl, ?_, h5⟩⟩, h4 0 _⟩, rfl, rfl⟩
          match us, hne with
          | u :: us', _ =>
            have := cell_lt (h5 0 u rfl)
            rwa [add_block] at this
      | struct fs =>
        simp only [hu, Bool.and_eq_true, List.all_eq_true] at h
        obtain ⟨xs, n, rfl, rfl, hl, hxl, hall⟩ := DataW.trod_struct hu hx
        obtain ⟨ds, h1, h2⟩ := fields_rd (P := P) (w := w) (F := fun g => g < w.heap.size) fs.toList cs 0 (by rw [Nat.zero_add, hl]; exact h.1) (fun f hf => by
          obtain ⟨i, hi, he⟩ := List.getElem_of_mem hf
          have hi' : i < fs.size := by simpa using hi
          have hfi : fs[i]? = some f := by rw [← he]; simp [hi']
          have := hall i f hfi
          have hxi : xs[i]? = some xs[i] := List.getElem?_eq_getElem (by omega)
          rw [hxi] at this
          rw [Nat.sub_zero]
          exact trod_rd N (h.2 f hf) this)
        exact ⟨ds, .struct hu h1, h2⟩
      | _ => simp [hu] at h

/-- How a law sees its arguments. -/
inductive Sees (P : Program) : List TypeId → List Arg → Prop
  | nil : Sees P [] []
  | one {t ts d as} : (∀ fs, P.underlying t ≠ some (.struct fs)) → Ty P t [d] → Sees P ts as → Sees P (t :: ts) (.sh (.one d) :: as)
  | agg {t ts fs ds as} : P.underlying t = some (.struct fs) → Ty P t ds → Sees P ts as → Sees P (t :: ts) (.sh (.agg ds) :: as)

def plain1 (P : Program) (t : TypeId) : Bool := plainB P 12 t

theorem cells_one {v : Value} (h : ∀ cs, v ≠ .agg cs) (h' : ∀ cs, v ≠ .tuple cs) : v.cells.toList = [v] := by
  cases v <;> simp_all [Value.cells]

theorem sees_of {b0 : Nat} {W : World} : ∀ {ts : List TypeId} {vs : List Value} {ds : List (DataW H)} {ps : List MemPlace}, (∀ t ∈ ts, plain1 P t = true) →
    (∀ (j : Nat) t v, ts[j]? = some t → vs[j]? = some v → Value.okWide P W .any b0 t v) → DataW.TrodAll enc P W 0 (fun _ => true) true ts vs ds ps →
    ∃ as, Sees P ts as ∧ ArgsR (fun g => g < W.heap.size) W as vs []
  | [], _, _, _, _, _, h => by
    obtain ⟨rfl, rfl, rfl⟩ := trodAll_nil h
    exact ⟨[], .nil, by simp [ArgsR]⟩
  | t :: ts, _, _, _, hp, hv, h => by
    obtain ⟨v, vs', d, ds', p, q, rfl, rfl, rfl, h1, h2⟩ := trodAll_cons h
    obtain ⟨as, k1, k2⟩ := sees_of (fun t ht => hp t (List.mem_cons_of_mem _ ht)) (fun j t' v' a b => hv (j + 1) t' v' (by simpa using a) (by simpa using b)) h2
    have hok := hv 0 t v rfl rfl
    obtain ⟨fuel, hf⟩ := h1
    have hpt := hp t (by simp)
    obtain ⟨dd, t1, r1⟩ := trod_rd 12 hpt hf
    cases hu : P.underlying t with
    | none => simp [plain1, plainB, hu] at hpt
    | some u =>
      have fin : (∀ fs, P.underlying t ≠ some (.struct fs)) → ∀ dd, Ty P t dd → (∀ k r, RDs (fun g => g < W.heap.size) W dd k r [v] []) → ∃ as, Sees P (t :: ts) as ∧ ArgsR (fun g => g < W.heap.size) W as (v :: vs') [] := by
        intro hns dd t1 r1
        have hl := RDs.length (r1 0 fun _ => undef)
        match dd, hl with
        | [d], _ =>
          have := r1 0 fun _ => undef
          simp only [RDs] at this
          obtain ⟨u, us', L1, L2, e1, e2, h3, h4, h5⟩ := this
          obtain ⟨rfl, rfl⟩ := List.append_eq_nil_iff.1 e2.symm
          obtain ⟨rfl, rfl⟩ := List.cons.inj e1
          refine ⟨_, .one hns t1 k1, ?_⟩
          simp only [ArgsR]
          exact ⟨_, _, [], [], rfl, rfl, ⟨rfl, _, h3⟩, k2⟩
      cases u with
      | struct fs =>
        obtain ⟨cs, rfl, _⟩ := okWide_struct hu hok
        refine ⟨_, .agg hu t1 k1, ?_⟩
        simp only [ArgsR]
        refine ⟨_, _, [], [], rfl, rfl, ⟨rfl, fun _ => undef, cs.toList, by simp, ?_⟩, k2⟩
        simpa [Value.cells] using r1 0 fun _ => undef
      | bool => obtain ⟨b, rfl⟩ := okWide_bool hu hok; exact fin (fun fs e => by rw [hu] at e; cases e) _ t1 (by simpa [Value.cells] using r1)
      | int k => obtain ⟨b, rfl⟩ := okWide_int hu hok; exact fin (fun fs e => by rw [hu] at e; cases e) _ t1 (by simpa [Value.cells] using r1)
      | string => obtain ⟨b, rfl⟩ := okWide_string hu hok; exact fin (fun fs e => by rw [hu] at e; cases e) _ t1 (by simpa [Value.cells] using r1)
      | slice e => obtain ⟨a, b, c, rfl⟩ := okWide_slice hu hok; exact fin (fun fs e => by rw [hu] at e; cases e) _ t1 (by simpa [Value.cells] using r1)
      | _ => simp [plain1, plainB, hu] at hpt

theorem trodAll_below {W W' : World} (hl : laidOutB P = true) (hb : Below W.heap.size W W') : ∀ {ts : List TypeId} {vs : List Value} {ds : List (DataW H)} {ps : List MemPlace},
    (∀ t ∈ ts, P.readableRec t = true ∧ t < P.types.size) → (∀ x ∈ ps, x.block < W.heap.size) → DataW.TrodAll enc P W 0 (fun _ => true) true ts vs ds ps →
    DataW.TrodAll enc P W' 0 (fun b => decide (b < W.heap.size)) true ts vs ds ps
  | [], _, _, _, _, _, h => by
    obtain ⟨rfl, rfl, rfl⟩ := trodAll_nil h
    exact trodAll_mk0
  | t :: ts, _, _, _, hp, hlt, h => by
    obtain ⟨v, vs', d, ds', p, q, rfl, rfl, rfl, h1, h2⟩ := trodAll_cons h
    have ht := hp t (by simp)
    exact ⟨p, q, h1.elim fun f hf => Below.trod hl ht.1 ht.2 ⟨f, hf⟩ hb (fun x hx => hlt x (by simp [hx])), trodAll_below hl hb (fun t ht => hp t (List.mem_cons_of_mem _ ht)) (fun x hx => hlt x (by simp [hx])) h2, rfl⟩

/-- A LAW's CONTRACT GIVES ITS ROW's END. -/
theorem law_contract {K : FuncId} {fn : Func} {s : ChangeSpec} {tb : TypeId} (hl : laidOutB P = true) (hts' : (fn.params.toList.all fun t => plain1 P t && P.readableRec t && decide (t < P.types.size)) = true)
    (hv : s.vars = []) (hr : fn.resultTypes = #[tb]) (hb : P.underlying tb = some .bool)
    (hs : ∀ ds : List (DataW H), ds.length = fn.params.toList.length → (s.fn H ds).results = [.lit (.bool true)] ∧ (s.fn H ds).args = ds ∧ (s.fn H ds).vars = [])
    (hc : ∀ as, Sees P fn.params.toList as → CallA P K as [.one (.lit (.bool true))] [])
    (W : World) (b0 : Nat) (args : Array Value) (ds gs : List (DataW H)) (before : List MemPlace)
    (hval : ∀ (j : Nat) t v, fn.params[j]? = some t → args[j]? = some v → Value.okWide P W .any b0 t v)
    (hW : DataW.Whole enc P fn.params.toList s.vars false W args.toList ds gs before) :
    Calls P K args W fun e W' => ∃ v, e = .returned v ∧ s.post enc P fn false true false false W args v W' := by
  have hts : ∀ t ∈ fn.params.toList, plain1 P t = true ∧ P.readableRec t = true ∧ t < P.types.size := by
    intro t ht
    have := List.all_eq_true.1 hts' t ht
    simpa [and_assoc] using this
  have hlt := hW.lt
  have hW' := hW
  obtain ⟨p, q, hA, hV, rfl, hfz, hnd⟩ := hW
  rw [hv] at hV
  obtain ⟨rfl, rfl⟩ := trodVars_none hV
  simp only [List.append_nil] at hW' hlt hfz hnd
  obtain ⟨as, hsee, hargs⟩ := sees_of (fun t ht => (hts t ht).1) (fun j t v a b => hval j t v (by simpa using a) (by simpa using b)) hA
  refine (hc as hsee W args.toList [] (fun g => g < W.heap.size) (fun g hg => ⟨hg, by simp⟩) hargs (by simp) (by simp)).mono fun e W' he => ?_
  obtain ⟨us, Lr, Lo, rfl, hk, hvr, _⟩ := he
  simp only [VRs, VR, RD] at hvr
  obtain ⟨u, us', L1, L2, rfl, _, ⟨r, rfl, _, _⟩, rfl, _⟩ := hvr
  have hbel : Below W.heap.size W W' := ⟨hk.os, hk.tape, hk.output, hk.size, fun k h => hk.block k h (by simp)⟩
  have hlen : ds.length = fn.params.toList.length := by
    have : ∀ {ts : List TypeId} {vs : List Value} {ds : List (DataW H)} {ps : List MemPlace}, DataW.TrodAll enc P W 0 (fun _ => true) true ts vs ds ps → ds.length = ts.length := by
      intro ts
      induction ts with
      | nil => intro vs ds ps h; obtain ⟨_, rfl, _⟩ := trodAll_nil h; rfl
      | cons t ts ih => intro vs ds ps h; obtain ⟨_, _, _, _, _, _, rfl, rfl, rfl, _, h2⟩ := trodAll_cons h; simp [ih h2]
    exact this hA
  obtain ⟨e1, e2, e3⟩ := hs ds hlen
  refine ⟨_, rfl, ds, [], p, [], p, [], hW', ?_, ?_, ?_, hbel.frame _, fun h => by cases h⟩
  · rw [List.append_nil, e1, hr]
    exact trodAll_mk1 (shut_bool hb _)
  · rw [List.append_nil, e2]
    exact trodAll_below hl hbel (fun t ht => (hts t ht).2) hlt hA
  · rw [List.append_nil, e3, hv]
    rfl
end

/-! ### Reading what a law sees -/
section
variable {P : Program}
theorem ty_int {t k ds} (hu : P.underlying t = some (.int k)) (h : Ty P t ds) : ∃ n, ds = [.lit (.int k n)] ∧ (Lit.int k n).wf = true := by
  cases h with
  | int h1 h2 => rw [hu] at h1; cases h1; exact ⟨_, rfl, h2⟩
  | bool h1 => rw [hu] at h1; cases h1
  | str h1 => rw [hu] at h1; cases h1
  | slice h1 => rw [hu] at h1; cases h1
  | struct h1 => rw [hu] at h1; cases h1
theorem ty_bool {t ds} (hu : P.underlying t = some .bool) (h : Ty P t ds) : ∃ b, ds = [.lit (.bool b)] := by
  cases h with
  | int h1 h2 => rw [hu] at h1; cases h1
  | bool h1 => exact ⟨_, rfl⟩
  | str h1 => rw [hu] at h1; cases h1
  | slice h1 => rw [hu] at h1; cases h1
  | struct h1 => rw [hu] at h1; cases h1
theorem ty_str {t ds} (hu : P.underlying t = some .string) (h : Ty P t ds) : ∃ s : ByteArray, ds = [.lit (.string s)] ∧ s.size ≤ maxLen := by
  cases h with
  | int h1 h2 => rw [hu] at h1; cases h1
  | bool h1 => rw [hu] at h1; cases h1
  | str h1 h2 => exact ⟨_, rfl, h2⟩
  | slice h1 => rw [hu] at h1; cases h1
  | struct h1 => rw [hu] at h1; cases h1
theorem ty_slice {t e ds} (hu : P.underlying t = some (.slice e)) (h : Ty P t ds) : ∃ parts, ds = [.sl false (P.cellsOf e) parts.flatten] ∧ TyL P e parts ∧ parts.length ≤ maxLen := by
  cases h with
  | int h1 h2 => rw [hu] at h1; cases h1
  | bool h1 => rw [hu] at h1; cases h1
  | str h1 => rw [hu] at h1; cases h1
  | slice h1 h2 h3 => rw [hu] at h1; cases h1; exact ⟨_, rfl, h2, h3⟩
  | struct h1 => rw [hu] at h1; cases h1
theorem ty_struct {t fs ds} (hu : P.underlying t = some (.struct fs)) (h : Ty P t ds) : TyF P (fs.toList.map (·.type)) ds := by
  cases h with
  | int h1 h2 => rw [hu] at h1; cases h1
  | bool h1 => rw [hu] at h1; cases h1
  | str h1 => rw [hu] at h1; cases h1
  | slice h1 => rw [hu] at h1; cases h1
  | struct h1 h2 => rw [hu] at h1; cases h1; exact h2
theorem tyF_cons {t ts ds} (h : TyF P (t :: ts) ds) : ∃ a b, ds = a ++ b ∧ Ty P t a ∧ TyF P ts b := by
  cases h with | cons h1 h2 => exact ⟨_, _, rfl, h1, h2⟩
theorem tyF_nil {ds} (h : TyF P [] ds) : ds = [] := by cases h; rfl
/-- The elements' data, one by one, through any view of them. -/
theorem tyL_map {α : Type} {e parts} (g : α → List D) (q : α → Prop) (h : TyL P e parts) (hg : ∀ p, Ty P e p → ∃ a, p = g a ∧ q a) : ∃ l : List α, parts = l.map g ∧ ∀ a ∈ l, q a := by
  induction parts with
  | nil => exact ⟨[], rfl, by simp⟩
  | cons p ps ih =>
    cases h with
    | cons h1 h2 =>
      obtain ⟨l, rfl, hl⟩ := ih h2
      obtain ⟨a, rfl, ha⟩ := hg p h1
      exact ⟨a :: l, rfl, by simpa using ⟨ha, hl⟩⟩
theorem sees_nil {as} (h : Sees P [] as) : as = [] := by cases h; rfl
theorem sees_one {t ts as} (hu : ∀ fs, P.underlying t ≠ some (.struct fs)) (h : Sees P (t :: ts) as) : ∃ d as', as = .sh (.one d) :: as' ∧ Ty P t [d] ∧ Sees P ts as' := by
  cases h with
  | one _ h1 h2 => exact ⟨_, _, rfl, h1, h2⟩
  | agg h1 => exact absurd h1 (hu _)
theorem wf_i64 {n : Int} (h : (Lit.int .i64 n).wf = true) : -9223372036854775808 ≤ n ∧ n ≤ 9223372036854775807 := by
  simpa [Lit.wf, IntKind.min, IntKind.max, IntKind.signed, IntKind.bits] using h
/-- An argument that is a number. -/
theorem sees_int {t ts as} (hu : P.underlying t = some (.int .i64)) (h : Sees P (t :: ts) as) : ∃ x as', as = .sh (.one (.lit (.int .i64 x))) :: as' ∧ (-9223372036854775808 ≤ x ∧ x ≤ 9223372036854775807) ∧ Sees P ts as' := by
  obtain ⟨d, as', rfl, h1, h2⟩ := sees_one (fun fs => by rw [hu]; simp) h
  obtain ⟨n, e, hn⟩ := ty_int hu h1
  cases e
  exact ⟨n, as', rfl, wf_i64 hn, h2⟩
theorem sees_str {t ts as} (hu : P.underlying t = some .string) (h : Sees P (t :: ts) as) : ∃ s as', as = .sh (.one (.lit (.string s))) :: as' ∧ s.size ≤ maxLen ∧ Sees P ts as' := by
  obtain ⟨d, as', rfl, h1, h2⟩ := sees_one (fun fs => by rw [hu]; simp) h
  obtain ⟨n, e, hn⟩ := ty_str hu h1
  cases e
  exact ⟨n, as', rfl, hn, h2⟩
theorem flat_lits (l : List Int) : (l.map fun x => [D.lit (.int .i64 x)]).flatten = lits (l.map (.int .i64)) := by
  induction l with
  | nil => rfl
  | cons a l ih => rw [List.map_cons, List.flatten_cons, ih]; rfl
/-- An argument that is a list of numbers. -/
theorem sees_ints {t e ts as} (hu : P.underlying t = some (.slice e)) (he : P.underlying e = some (.int .i64)) (hc : P.cellsOf e = 1) (h : Sees P (t :: ts) as) :
    ∃ (l : List Int) (as' : List Arg), as = .sh (.one (.sl false 1 (lits (l.map (.int .i64))))) :: as' ∧ l.length ≤ maxLen ∧ (∀ x ∈ l, -9223372036854775808 ≤ x ∧ x ≤ 9223372036854775807) ∧ Sees P ts as' := by
  obtain ⟨d, as', rfl, h1, h2⟩ := sees_one (fun fs => by rw [hu]; simp) h
  obtain ⟨parts, ee, h3, h4⟩ := ty_slice hu h1
  cases ee
  obtain ⟨l, rfl, hl⟩ := tyL_map (fun x : Int => [D.lit (.int .i64 x)]) (fun x => -9223372036854775808 ≤ x ∧ x ≤ 9223372036854775807) h3 (fun p hp => by
    obtain ⟨n, e, hn⟩ := ty_int he hp
    exact ⟨n, e, wf_i64 hn⟩)
  rw [hc, flat_lits]
  exact ⟨l, as', rfl, by simpa using h4, hl, h2⟩
end
end Go.Pv
