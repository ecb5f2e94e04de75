/- Forests in plain words: walks that do not turn back have no vertex twice; labels of components. No condition. -/
import Derived.Test.YtmgmpnhlehonmaaGreatWPvO
import Derived.ProofKit
import Derived.Deep.Slices
import Derived.Test.YtmgmpnhlehonmaaGreatWPvP
import Derived.Test.YtmgmpnhlehonmaaGreatWPvI
set_option linter.unusedVariables false
set_option linter.unusedSimpArgs false
namespace Go.Pv
open Go.RowKit Go.ChangeShapes Go.WideShapes Go.Deep
mutual
inductive Ty (P : Program) : TypeId -> List D -> Prop
 | int {t k n} : P.underlying t = some (.int k) -> (Lit.int k n).wf = true -> Ty P t [.lit (.int k n)]
 | bool {t b} : P.underlying t = some .bool -> Ty P t [.lit (.bool b)]
 | str {t s} : P.underlying t = some .string -> s.size <= maxLen -> Ty P t [.lit (.string s)]
 | slice {t e parts} : P.underlying t = some (.slice e) -> TyL P e parts -> parts.length <= maxLen -> Ty P t [.sl false (P.cellsOf e) parts.flatten]
 | struct {t fs ds} : P.underlying t = some (.struct fs) -> TyF P (fs.toList.map (·.type)) ds -> Ty P t ds
inductive TyL (P : Program) : TypeId -> List (List D) -> Prop
 | nil {e} : TyL P e []
 | cons {e p ps} : Ty P e p -> TyL P e ps -> TyL P e (p :: ps)
inductive TyF (P : Program) : List TypeId -> List D -> Prop
 | nil : TyF P [] []
 | cons {t ts ds ds'} : Ty P t ds -> TyF P ts ds' -> TyF P (t :: ts) (ds ++ ds')
end
def Kz (P : Program) : List Field -> Nat -> Nat -> Bool
 | [], at_, n => at_ == n
 | f :: fs, at_, n => f.offset == at_ && Kz P fs (at_ + P.cellsOf f.type) n
def K0 (P : Program) : Nat -> TypeId -> Bool
 | 0, _ => false
 | n + 1, t => match P.underlying t with
  | some .bool => true
  | some (.int _) => true
  | some .string => true
  | some (.slice e) => K0 P n e
  | some (.struct fs) => Kz P fs.toList 0 (P.cellsOf t) && fs.toList.all fun f => K0 P n f.type
  | _ => false
section
variable {H : Type} {enc : TypeId × Value -> H} {P : Program} {w : World} {base : Nat} {spare : Nat -> Bool} {held : Bool} {F : Nat -> Prop}
theorem Zkx {r : Rho} : ∀ {ds ds' : List D} {us us' : List Value} {k : Nat}, RDs F w ds k r us [] -> (∀ k, RDs F w ds' k r us' []) -> RDs F w (ds ++ ds') k r (us ++ us') []
 | [], ds', us, us', k, h, h' => by simp only [RDs] at h; obtain ⟨rfl, _⟩ := h; exact h' k
 | d :: ds, ds', us, us', k, h, h' => by
  simp only [RDs] at h
  obtain ⟨u, v, L1, L2, rfl, e, h1, h2⟩ := h
  obtain ⟨rfl, rfl⟩ := List.append_eq_nil_iff.1 e.symm
  simp only [List.cons_append, RDs]
  exact ⟨u, v ++ us', [], [], rfl, rfl, h1, Zkx (k := k + 1) h2 h'⟩
theorem Zxj {w : World} {a : Addr} {v : Value} (h : w.cell? a = some v) : a.block < w.heap.size := by
 unfold World.cell? at h
 cases hb : w.heap[a.block]? with
 | none => simp [hb] at h
 | some o => exact (Array.getElem?_eq_some_iff.1 hb).1
theorem Zmy {e : TypeId} {a : Addr} {n : Nat} (ih : ∀ {cs x}, DataW.trod enc P w base spare held n e cs = some x -> ∃ ds, Ty P e ds /\ ∀ k r, RDs (fun g => g < w.heap.size) w ds k r cs []) :
  ∀ (len : Nat), (∀ i, i < len -> ∃ cs x, w.cells? base (a.add (i * P.cellsOf e)) (P.cellsOf e) = some cs /\ DataW.trod enc P w base spare held n e cs = some x) ->
   ∃ parts us, TyL P e parts /\ parts.length = len /\ us.length = len * P.cellsOf e /\ (∀ k r, RDs (fun g => g < w.heap.size) w parts.flatten k r us []) /\ ∀ (j : Nat) (u : Value), us[j]? = some u -> w.cell? (a.add j) = some u
 | 0, _ => ⟨[], [], .nil, rfl, by simp, fun k r => by simp [RDs], fun j u h => by simp at h⟩
 | len + 1, h => by
  obtain ⟨parts, us, h1, h2, h3, h4, h5⟩ := Zmy ih len fun i hi => h i j2
  obtain ⟨cs, x, hc, hx⟩ := h len j2
  obtain ⟨ds, hd, hr⟩ := ih hx
  obtain ⟨_, hl, hg⟩ := World.cells?_some hc
  have snoc : ∀ {ps : List (List D)}, TyL P e ps -> TyL P e (ps ++ [ds]) := by
   intro ps hp
   induction ps with
   | nil => exact .cons hd .nil
   | cons p ps ihp => cases hp with | cons a b => exact .cons a (ihp b)
  refine ⟨parts ++ [ds], us ++ cs, snoc h1, by simp [h2], by rw [List.length_append, h3, hl, Nat.succ_mul], fun k r => ?_, fun j u hj => ?_⟩
  ·rw [List.flatten_append]
   exact Zkx (k := k) (h4 k r) fun k => by simpa using hr k r
  ·rw [List.getElem?_append] at hj
   split at hj
   ·exact h5 j u hj
   ·rename_i hlt
    have hjlt : j - us.length < cs.length := (List.getElem?_eq_some_iff.1 hj).1
    have := hg (j - us.length) j2
    rw [Qr, hj] at this
    rw [<- this]
    congr 2
    omega
theorem Zjk : ∀ (fs : List Field) (cs : List Value) (at_ : Nat), Kz P fs at_ (at_ + cs.length) = true ->
      (∀ f ∈ fs, ∃ ds, Ty P f.type ds /\ ∀ k r, RDs F w ds k r ((cs.drop (f.offset - at_)).take (P.cellsOf f.type)) []) ->
      ∃ ds, TyF P (fs.map (·.type)) ds /\ ∀ k r, RDs F w ds k r cs []
  | [], cs, at_, h, _ => by
    simp [Kz] at h
    subst h
    exact ⟨[], .nil, fun k r => by simp [RDs]⟩
  | f :: fs, cs, at_, h, hx => by
    simp only [Kz, Bool.and_eq_true, beq_iff_eq] at h
    obtain ⟨h1, h2⟩ := h
    have mono : ∀ (fs : List Field) (a m : Nat), Kz P fs a m = true -> a <= m /\ ∀ f ∈ fs, a <= f.offset := by
      intro fs
      induction fs with
      | nil => intro a m h; simp [Kz] at h; exact ⟨by omega, by simp⟩
      | cons f fs ih =>
        intro a m h
        simp only [Kz, Bool.and_eq_true, beq_iff_eq] at h
        have := ih _ _ h.2
        exact ⟨by omega, fun g hg => by rcases List.mem_cons.1 hg with rfl | hg; · omega
                                        · have := this.2 g hg; omega⟩
    have hm := mono _ _ _ h2
    obtain ⟨d1, t1, r1⟩ := hx f (by simp)
    have hlen : at_ + P.cellsOf f.type + (cs.drop (P.cellsOf f.type)).length = at_ + cs.length := by
      rw [List.length_drop]; omega
    obtain ⟨d2, t2, r2⟩ := Zjk fs (cs.drop (P.cellsOf f.type)) (at_ + P.cellsOf f.type) (by rw [hlen]; exact h2) (fun g hg => by
      obtain ⟨d, t, r⟩ := hx g (List.mem_cons_of_mem _ hg)
      refine ⟨d, t, fun k ρ => ?_⟩
      have := r k ρ
      rw [List.drop_drop, show P.cellsOf f.type + (g.offset - (at_ + P.cellsOf f.type)) = g.offset - at_ by have := hm.2 g hg; omega]
      exact this)
    refine ⟨d1 ++ d2, .cons t1 t2, fun k r => ?_⟩
    have h3 := r1 k r
    rw [h1, Nat.sub_self, List.drop_zero] at h3
    have := Zkx (k := k) h3 fun k => r2 k r
    rwa [List.take_append_drop] at this
theorem Zky : ∀ (N : Nat) {t : TypeId} {fuel : Nat} {cs : List Value} {x : DataW H × List MemPlace}, K0 P N t = true -> DataW.trod enc P w base spare held fuel t cs = some x ->
  ∃ ds, Ty P t ds /\ ∀ k r, RDs (fun g => g < w.heap.size) w ds k r cs []
 | 0, _, _, _, _, h, _ => by simp [K0] at h
 | N + 1, t, fuel, cs, x, h, hx => by
  unfold K0 at h
  cases hu : P.underlying t with
  | none => simp [hu] at h
  | some u =>
   cases u with
   | bool =>
    obtain ⟨b, rfl, _⟩ := DataW.trod_bool hu hx
    exact ⟨_, .bool hu, fun k r => by simp only [RDs, RD]; exact ⟨_, [], [], [], rfl, rfl, ⟨rfl, rfl, rfl⟩, rfl, rfl⟩⟩
   | int k =>
    obtain ⟨b, rfl, _, hw⟩ := DataW.trod_int hu hx
    exact ⟨_, .int hu hw, fun k r => by simp only [RDs, RD]; exact ⟨_, [], [], [], rfl, rfl, ⟨rfl, rfl, rfl⟩, rfl, rfl⟩⟩
   | string =>
    obtain ⟨b, rfl, _, hw⟩ := DataW.trod_string hu hx
    exact ⟨_, .str hu hw, fun k r => by simp only [RDs, RD]; exact ⟨_, [], [], [], rfl, rfl, ⟨rfl, rfl, rfl⟩, rfl, rfl⟩⟩
   | slice e =>
    simp only [hu] at h
    rcases Go.Deep.open_slice hu hx with ⟨rfl, _⟩ | ⟨a, len, cap, m, n, Df, Pl, rfl, _, hl, hm, hmm, _, hall⟩
    ·refine ⟨_, .slice hu .nil (Nat.zero_le _), fun k r => ?_⟩
     simp only [RDs, RD, List.flatten_nil]
     exact ⟨_, [], [], [], rfl, rfl, ⟨rfl, [], ⟨none, 0, 0, rfl, by simp, Nat.le_refl _, Nat.zero_le _, fun h => absurd rfl h⟩, by simp⟩, by simp⟩
    ·have hml : len <= m := by rw [hmm]; split <;> omega
     obtain ⟨parts, us, h1, h2, h3, h4, h5⟩ := Zmy (fun hx => Zky N h hx) len (a := a) (n := n) (fun i hi => by
      obtain ⟨cs', k1, k2⟩ := hall i j2
      exact ⟨cs', _, k1, k2⟩)
     refine ⟨_, .slice hu h1 j2, fun k r => ?_⟩
     simp only [RDs, RD]
     refine ⟨_, [], [], [], rfl, rfl, ⟨rfl, us, ⟨some a, len, cap, rfl, h3.symm, hl, hm, fun hne => ⟨a, rfl, ?_, h5⟩⟩, h4 0 _⟩, rfl, rfl⟩
     match us, hne with
     | u :: us', _ =>
      have := Zxj (h5 0 u rfl)
      rwa [Q4] at this
   | struct fs =>
    simp only [hu, Bool.and_eq_true, List.all_eq_true] at h
    obtain ⟨xs, n, rfl, rfl, hl, hxl, hall⟩ := DataW.trod_struct hu hx
    obtain ⟨ds, h1, h2⟩ := Zjk (P := P) (w := w) (F := fun g => g < w.heap.size) fs.toList cs 0 (by rw [Nat.zero_add, hl]; exact h.1) (fun f hf => by
     obtain ⟨i, hi, he⟩ := List.getElem_of_mem hf
     have hi' : i < fs.size := by simpa using hi
     have hfi : fs[i]? = some f := by rw [<- he]; simp [hi']
     have := hall i f hfi
     have hxi : xs[i]? = some xs[i] := List.getElem?_eq_getElem j2
     rw [hxi] at this
     rw [Nat.sub_zero]
     exact Zky N (h.2 f hf) this)
    exact ⟨ds, .struct hu h1, h2⟩
   | _ => simp [hu] at h
inductive Zbu (P : Program) : List TypeId -> List Arg -> Prop
 | nil : Zbu P [] []
 | one {t ts d as} : (∀ fs, P.underlying t ≠ some (.struct fs)) -> Ty P t [d] -> Zbu P ts as -> Zbu P (t :: ts) (.sh (.one d) :: as)
 | agg {t ts fs ds as} : P.underlying t = some (.struct fs) -> Ty P t ds -> Zbu P ts as -> Zbu P (t :: ts) (.sh (.agg ds) :: as)
def Zgq (P : Program) (t : TypeId) : Bool := K0 P 12 t
theorem Zql {b0 : Nat} {W : World} : ∀ {ts : List TypeId} {vs : List Value} {ds : List (DataW H)} {ps : List MemPlace}, (∀ t ∈ ts, Zgq P t = true) ->
  (∀ (j : Nat) t v, ts[j]? = some t -> vs[j]? = some v -> Value.okWide P W .any b0 t v) -> DataW.TrodAll enc P W 0 (fun _ => true) true ts vs ds ps ->
  ∃ as, Zbu P ts as /\ Xx (fun g => g < W.heap.size) W as vs []
 | [], _, _, _, _, _, h => by
  obtain ⟨rfl, rfl, rfl⟩ := trodAll_nil h
  exact ⟨[], .nil, by simp [Xx]⟩
 | t :: ts, _, _, _, hp, hv, h => by
  obtain ⟨v, vs', d, ds', p, q, rfl, rfl, rfl, h1, h2⟩ := trodAll_cons h
  obtain ⟨as, k1, k2⟩ := Zql (fun t ht => hp t (List.mem_cons_of_mem _ ht)) (fun j t' v' a b => hv (j + 1) t' v' (by simpa using a) (by simpa using b)) h2
  have hok := hv 0 t v rfl rfl
  obtain ⟨fuel, hf⟩ := h1
  have hpt := hp t (by simp)
  obtain ⟨dd, t1, r1⟩ := Zky 12 hpt hf
  cases hu : P.underlying t with
  | none => simp [Zgq, K0, hu] at hpt
  | some u =>
   have fin : (∀ fs, P.underlying t ≠ some (.struct fs)) -> ∀ dd, Ty P t dd -> (∀ k r, RDs (fun g => g < W.heap.size) W dd k r [v] []) -> ∃ as, Zbu P (t :: ts) as /\ Xx (fun g => g < W.heap.size) W as (v :: vs') [] := by
    intro hns dd t1 r1
    have hl := RDs.length (r1 0 fun _ => undef)
    match dd, hl with
    | [d], _ =>
     have := r1 0 fun _ => undef
     simp only [RDs] at this
     obtain ⟨u, us', L1, L2, e1, e2, h3, h4, h5⟩ := this
     obtain ⟨rfl, rfl⟩ := List.append_eq_nil_iff.1 e2.symm
     obtain ⟨rfl, rfl⟩ := List.cons.inj e1
     refine ⟨_, .one hns t1 k1, ?_⟩
     simp only [Xx]
     exact ⟨_, _, [], [], rfl, rfl, ⟨rfl, _, h3⟩, k2⟩
   cases u with
   | struct fs =>
    obtain ⟨cs, rfl, _⟩ := okWide_struct hu hok
    refine ⟨_, .agg hu t1 k1, ?_⟩
    simp only [Xx]
    refine ⟨_, _, [], [], rfl, rfl, ⟨rfl, fun _ => undef, cs.toList, by simp, ?_⟩, k2⟩
    simpa [Value.cells] using r1 0 fun _ => undef
   | bool => obtain ⟨b, rfl⟩ := okWide_bool hu hok; exact fin (fun fs e => by rw [hu] at e; cases e) _ t1 (by simpa [Value.cells] using r1)
   | int k => obtain ⟨b, rfl⟩ := okWide_int hu hok; exact fin (fun fs e => by rw [hu] at e; cases e) _ t1 (by simpa [Value.cells] using r1)
   | string => obtain ⟨b, rfl⟩ := okWide_string hu hok; exact fin (fun fs e => by rw [hu] at e; cases e) _ t1 (by simpa [Value.cells] using r1)
   | slice e => obtain ⟨a, b, c, rfl⟩ := okWide_slice hu hok; exact fin (fun fs e => by rw [hu] at e; cases e) _ t1 (by simpa [Value.cells] using r1)
   | _ => simp [Zgq, K0, hu] at hpt
theorem Zao {W W' : World} (hl : laidOutB P = true) (hb : Below W.heap.size W W') : ∀ {ts : List TypeId} {vs : List Value} {ds : List (DataW H)} {ps : List MemPlace},
  (∀ t ∈ ts, P.readableRec t = true /\ t < P.types.size) -> (∀ x ∈ ps, x.block < W.heap.size) -> DataW.TrodAll enc P W 0 (fun _ => true) true ts vs ds ps ->
  DataW.TrodAll enc P W' 0 (fun b => decide (b < W.heap.size)) true ts vs ds ps
 | [], _, _, _, _, _, h => by
  obtain ⟨rfl, rfl, rfl⟩ := trodAll_nil h
  exact trodAll_mk0
 | t :: ts, _, _, _, hp, hlt, h => by
  obtain ⟨v, vs', d, ds', p, q, rfl, rfl, rfl, h1, h2⟩ := trodAll_cons h
  have ht := hp t (by simp)
  exact ⟨p, q, h1.elim fun f hf => Below.trod hl ht.1 ht.2 ⟨f, hf⟩ hb (fun x hx => hlt x x4), Zao hl hb (fun t ht => hp t (List.mem_cons_of_mem _ ht)) (fun x hx => hlt x x4) h2, rfl⟩
theorem Zkz {K : FuncId} {fn : Func} {s : ChangeSpec} {tb : TypeId} (hl : laidOutB P = true) (hts' : (fn.params.toList.all fun t => Zgq P t && P.readableRec t && decide (t < P.types.size)) = true)
  (hv : s.vars = []) (hr : fn.resultTypes = #[tb]) (hb : P.underlying tb = some .bool)
  (hs : ∀ ds : List (DataW H), ds.length = fn.params.toList.length -> (s.fn H ds).results = [.lit (.bool true)] /\ (s.fn H ds).args = ds /\ (s.fn H ds).vars = [])
  (hc : ∀ as, Zbu P fn.params.toList as -> Zj P K as [.one (.lit (.bool true))] [])
  (W : World) (b0 : Nat) (args : Array Value) (ds gs : List (DataW H)) (before : List MemPlace)
  (hval : ∀ (j : Nat) t v, fn.params[j]? = some t -> args[j]? = some v -> Value.okWide P W .any b0 t v)
  (hW : DataW.Whole enc P fn.params.toList s.vars false W args.toList ds gs before) :
  Calls P K args W fun e W' => ∃ v, e = .returned v /\ s.post enc P fn false true false false W args v W' := by
 have hts : ∀ t ∈ fn.params.toList, Zgq P t = true /\ P.readableRec t = true /\ t < P.types.size := by
  intro t ht
  have := List.all_eq_true.1 hts' t ht
  simpa [and_assoc] using this
 have hlt := hW.lt
 have hW' := hW
 obtain ⟨p, q, hA, hV, rfl, hfz, hnd⟩ := hW
 rw [hv] at hV
 obtain ⟨rfl, rfl⟩ := trodVars_none hV
 simp only [List.append_nil] at hW' hlt hfz hnd
 obtain ⟨as, hsee, hargs⟩ := Zql (fun t ht => (hts t ht).1) (fun j t v a b => hval j t v (by simpa using a) (by simpa using b)) hA
 refine (hc as hsee W args.toList [] (fun g => g < W.heap.size) (fun g hg => ⟨hg, by simp⟩) hargs (by simp) (by simp)).mono fun e W' he => ?_
 obtain ⟨us, Lr, Lo, rfl, hk, hvr, _⟩ := he
 simp only [VRs, VR, RD] at hvr
 obtain ⟨u, us', L1, L2, rfl, _, ⟨r, rfl, _, _⟩, rfl, _⟩ := hvr
 have hbel : Below W.heap.size W W' := ⟨hk.os, hk.tape, hk.output, hk.size, fun k h => hk.block k h (by simp)⟩
 have hlen : ds.length = fn.params.toList.length := by
  have : ∀ {ts : List TypeId} {vs : List Value} {ds : List (DataW H)} {ps : List MemPlace}, DataW.TrodAll enc P W 0 (fun _ => true) true ts vs ds ps -> ds.length = ts.length := by
   intro ts
   induction ts with
   | nil => intro vs ds ps h; obtain ⟨_, rfl, _⟩ := trodAll_nil h; rfl
   | cons t ts ih => intro vs ds ps h; obtain ⟨_, _, _, _, _, _, rfl, rfl, rfl, _, h2⟩ := trodAll_cons h; simp [ih h2]
  exact this hA
 obtain ⟨e1, e2, e3⟩ := hs ds hlen
 refine ⟨_, rfl, ds, [], p, [], p, [], hW', ?_, ?_, ?_, hbel.frame _, fun h => by cases h⟩
 ·rw [List.append_nil, e1, hr]
  exact trodAll_mk1 (shut_bool hb _)
 ·rw [List.append_nil, e2]
  exact Zao hl hbel (fun t ht => (hts t ht).2) hlt hA
 ·rw [List.append_nil, e3, hv]
  rfl
end
section
variable {P : Program}
theorem Zz5 {t k ds} (hu : P.underlying t = some (.int k)) (h : Ty P t ds) : ∃ n, ds = [.lit (.int k n)] /\ (Lit.int k n).wf = true := by
 cases h with
 | int h1 h2 => rw [hu] at h1; cases h1; exact ⟨_, rfl, h2⟩
 | bool h1 => rw [hu] at h1; cases h1
 | str h1 => rw [hu] at h1; cases h1
 | slice h1 => rw [hu] at h1; cases h1
 | struct h1 => rw [hu] at h1; cases h1
theorem Zt4 {t e ds} (hu : P.underlying t = some (.slice e)) (h : Ty P t ds) : ∃ parts, ds = [.sl false (P.cellsOf e) parts.flatten] /\ TyL P e parts /\ parts.length <= maxLen := by
 cases h with
 | int h1 h2 => rw [hu] at h1; cases h1
 | bool h1 => rw [hu] at h1; cases h1
 | str h1 => rw [hu] at h1; cases h1
 | slice h1 h2 h3 => rw [hu] at h1; cases h1; exact ⟨_, rfl, h2, h3⟩
 | struct h1 => rw [hu] at h1; cases h1
theorem Zxk {α : Type} {e parts} (g : α -> List D) (q : α -> Prop) (h : TyL P e parts) (hg : ∀ p, Ty P e p -> ∃ a, p = g a /\ q a) : ∃ l : List α, parts = l.map g /\ ∀ a ∈ l, q a := by
 induction parts with
 | nil => exact ⟨[], rfl, by simp⟩
 | cons p ps ih =>
  cases h with
  | cons h1 h2 =>
   obtain ⟨l, rfl, hl⟩ := ih h2
   obtain ⟨a, rfl, ha⟩ := hg p h1
   exact ⟨a :: l, rfl, by simpa using ⟨ha, hl⟩⟩
theorem Zt5 {as} (h : Zbu P [] as) : as = [] := by cases h; rfl
theorem Zt6 {t ts as} (hu : ∀ fs, P.underlying t ≠ some (.struct fs)) (h : Zbu P (t :: ts) as) : ∃ d as', as = .sh (.one d) :: as' /\ Ty P t [d] /\ Zbu P ts as' := by
 cases h with
 | one _ h1 h2 => exact ⟨_, _, rfl, h1, h2⟩
 | agg h1 => exact absurd h1 (hu _)
end
end Go.Pv
namespace Go.Pv
open Go.RowKit
section
variable {P : Program} {T : TypeId}
theorem Zu.of {e : TypeId} {z : Value} {sz bytes : Nat} (hu : P.underlying T = some (.slice e)) (hi : (P.info? e).map (fun i => (i.zero, i.size, i.bytes)) = some (some z, sz, bytes)) (h : (decide (0 < sz) && decide (sz <= 16) && decide (bytes <= 128) && (z.cells.size == sz)) = true) : Zu P T sz := by
 obtain ⟨i, h1, h2⟩ := Option.map_eq_some_iff.1 hi
 simp only [Prod.mk.injEq] at h2
 obtain ⟨h2, h3, h4⟩ := h2
 simp only [Bool.and_eq_true, decide_eq_true_eq, beq_iff_eq] at h
 exact ⟨e, i, z, hu, h1, h3, h.1.1.1, h.1.1.2, by rw [h4]; exact h.1.2, h2, h.2⟩
def Zxl : TypeDesc -> Bool
 | .struct _ => false
 | .array _ _ => false
 | _ => true
theorem X6.of {d : TypeDesc} (hu : P.underlying T = some d) (hd : Zxl d = true) (hi : (P.info? T).map (·.size) = some 1) : X6 P T := by
 obtain ⟨i, h1, h2⟩ := Option.map_eq_some_iff.1 hi
 exact ⟨d, i, hu, by cases d <;> first | rfl | exact hd, h1, h2⟩
theorem X8.of {fs : Array Field} {sz : Nat} (hu : P.underlying T = some (.struct fs)) (hi : (P.info? T).map (·.size) = some sz) : X8 P T sz := by
 obtain ⟨i, h1, h2⟩ := Option.map_eq_some_iff.1 hi
 exact ⟨fs, i, hu, h1, h2⟩
theorem Xw.of {fs : Array Field} {k off ft s : Nat} (hu : P.underlying T = some (.struct fs)) (hf : (fs[k]?).map (fun f => (f.offset, f.type)) = some (off, ft)) (hi : (P.info? ft).map (·.size) = some (s + 1)) : Xw P T k off := by
 obtain ⟨f, h1, h2⟩ := Option.map_eq_some_iff.1 hf
 simp only [Prod.mk.injEq] at h2
 obtain ⟨rfl, rfl⟩ := h2
 obtain ⟨i, h3, h4⟩ := Option.map_eq_some_iff.1 hi
 exact ⟨fs, f, i, hu, h1, rfl, h3, by omega⟩
theorem Xv.of {z : Value} {ds : List D} (hi : (P.info? T).map (·.zero) = some (some z)) (h : V0 z.cells.toList ds) : Xv P T ds := by
 obtain ⟨i, h1, h2⟩ := Option.map_eq_some_iff.1 hi
 exact ⟨i, z, h1, h2, h⟩
theorem Wu.of {e : TypeId} {z : Value} {bytes : Nat} {d0 : D} (hu : P.underlying T = some (.slice e)) (hi : (P.info? e).map (fun i => (i.zero, i.size, i.bytes)) = some (some z, 1, bytes)) (h : bytes <= 128) (hc : z.cells = #[z]) (hz : Kp z d0) : Wu P T d0 := by
 obtain ⟨i, h1, h2⟩ := Option.map_eq_some_iff.1 hi
 simp only [Prod.mk.injEq] at h2
 obtain ⟨h2, h3, h4⟩ := h2
 exact ⟨e, i, z, hu, h1, h3, by rw [h4]; exact h, h2, hc, hz⟩
theorem zL_ {v : Value} (h : v.oneCell' = true) : Kp v (.lit v) := by
 cases v with
 | slice a b c => cases a <;> cases b <;> cases c <;> exact ⟨rfl, h⟩
 | _ => exact ⟨rfl, h⟩
theorem Xt {sz : Nat} : Kp (.slice none 0 0) (.sl true sz []) := trivial
end
end Go.Pv
namespace Go.Pv
open Go.RowKit
section
variable {P : Program} {n : NN} {st : Nat -> AV} {nx nid : Nat}
theorem Z8.next {K : (Nat -> AV) -> Nat -> Prop} {Q : Exit -> (Nat -> AV) -> Nat -> Prop} {s : Nat -> AV} {k : Nat} (h : K s k) : Z8 K Q .normal s k := h
theorem Zk.next {Q : Exit -> (Nat -> AV) -> Nat -> Prop} {id : Nat} {s : Nat -> AV} {k : Nat} (h : Q .normal s k) : Zk id Q .normal s k := h
abbrev Ze (l : List Int) : List D := l.map fun x => D.lit (.int .i64 x)
theorem H0 {α : Type} {g : α -> D} {L : List α} {i : Nat} (d0 : α) (h : i < L.length) : (L.map g)[i]? = some (g (L.getD i d0)) := by
 simp [List.getD, h]
theorem Zmz {l : List Int} {i : Nat} (h : i < l.length) : (l.map fun x => D.lit (.int .i64 x))[i]? = some (.lit (.int .i64 (l.getD i 0))) := H0 0 h
theorem eI_ (l : List Int) : D.erases (Ze l) = Ze l := by rw [D.erases_eq]; simp [D.erase]
theorem V7 (l : List Int) : D.solids (Ze l) = true := by
 unfold Ze
 induction l with
 | nil => rfl
 | cons a l ih => simp only [List.map_cons, D.solids, D.solid, ih, Bool.and_self]
theorem Zo4 (l : List Int) : ∀ d ∈ Ze l, d.plain = true := by simp [D.plain]
theorem Zk0 {α : Type} {g : α -> D} {L : List α} {d : Nat} {x : Operand} {T : TypeId} {sz' : Nat} {rd : List Nat} {ty pos aft gd} [Zu P T sz'] (hv : U3 st x rd 1 (L.map g)) (hd : n d = true) :
  Zg P n ⟨some d, .call ⟨.builtin .len, #[x], #[T]⟩, ty, pos, aft, gd⟩ nid st rd [(d, .c (.lit (.int .i64 (L.length : Int))))] := by
 have := Zmh (P := P) (n := n) (nid := nid) (ty := ty) (pos := pos) (aft := aft) (g := gd) (d := d) (T := T) (sz' := sz') hv L.length (by simp) (by decide) hd
 exact this
theorem Kh {t x id off : Nat} {path : List Nat} {xv : Operand} {v : Int} {T : TypeId} {dd d1 : D} {l : List Int} {ty pos aft g} [X6 P T] (h : st t = .ptr x id path off) (hx : st x = .own id dd) (hn' : dd.nav path = some d1) (hk : d1.kids = some (Ze l))
  (hv : Lit st xv (.int .i64 v)) (hlt : off < l.length) :
  Zg P n ⟨none, .store T (.tmp t) xv, ty, pos, aft, g⟩ nid st (t :: x :: Z5 xv) [(x, .own id (dd.put path (d1.withKids (Ze (l.set off v)))))] := by
 have := Qf (P := P) (n := n) (nid := nid) (T := T) (ty := ty) (pos := pos) (aft := aft) (g := g) h hx hn' hk (Zmz hlt) hv rfl
 rwa [show (Ze l).set off (.lit (.int .i64 v)) = Ze (l.set off v) by simp [Ze, List.map_set]] at this
theorem Zgr (m : Nat) : List.replicate m (D.lit (.int .i64 0)) = Ze (List.replicate m 0) := by simp [Ze]
theorem Zgs {d : Nat} {T : TypeId} {x y : Operand} {k k' : IntKind} {i i' : Int} {ty pos aft g} [hT : Wu P T (.lit (.int .i64 0))] (hx : Lit st x (.int k i)) (hy : Lit st y (.int k' i')) (he : i' = i) (h0 : 0 <= i) (hm : i <= 1099511627776) (hd : n d = true) :
  Zg P n ⟨some d, .makeSlice T x y, ty, pos, aft, g⟩ nid st (Z5 x ++ Z5 y) [(d, .own nid (.sl true 1 (Ze (List.replicate i.toNat 0))))] := by
 rw [<- Zgr]
 exact Zc9 hx hy (Int.toNat_of_nonneg h0).symm (by rw [he]; exact (Int.toNat_of_nonneg h0).symm) j2 hd
theorem Zq {id sz : Nat} {l l' : List Int} (h : l = l') : AV.own id (.sl true sz (Ze l)) = AV.own id (.sl true sz (Ze l')) := by rw [h]
theorem Zz6 {o : Bool} {sz : Nat} {l l' : List Int} (h : l = l') : AV.c (.sl o sz (Ze l)) = AV.c (.sl o sz (Ze l')) := by rw [h]
theorem Zjl : ∀ (l : List Int) (j : Nat), j < l.length -> (l.take j ++ List.replicate (l.length - j) 0).set j (l.getD j 0) = l.take (j + 1) ++ List.replicate (l.length - (j + 1)) 0
 | [], _, h => by simp at h
 | a :: l, 0, _ => by simp [List.replicate_succ]
 | a :: l, j + 1, h => by
  have := Zjl l j v6
  simpa using this
theorem Q8 : ∀ {a b : List Int}, a.length = b.length -> (∀ i, i < a.length -> a.getD i 0 = b.getD i 0) -> a = b
 | [], [], _, _ => rfl
 | [], _ :: _, h, _ => by simp at h
 | _ :: _, [], h, _ => by simp at h
 | x :: a, y :: b, h, e => by
  have h0 : x = y := by simpa using e 0 (by simp)
  rw [h0, Q8 (a := a) (b := b) v6 fun i hi => by simpa using e (i + 1) (by simpa using hi)]
abbrev LL (L : List (List Int)) : List D := L.map fun l => D.sl true 1 (Ze l)
abbrev LLs (L : List (List Int)) : List D := L.map fun l => D.sl false 1 (Ze l)
theorem eN_ (L : List (List Int)) : D.erases (LL L) = LLs L := by
 rw [D.erases_eq, List.map_map]
 refine List.map_congr_left fun l _ => ?_
 simp only [Function.comp_apply, D.erase, eI_]
theorem eM_ (L : List (List Int)) : D.erases (LLs L) = LLs L := by
 rw [D.erases_eq, List.map_map]
 refine List.map_congr_left fun l _ => ?_
 simp only [Function.comp_apply, D.erase, eI_]
theorem H1 (L : List (List Int)) : D.solids (LL L) = true := by
 unfold LL
 induction L with
 | nil => rfl
 | cons a l ih => simp only [List.map_cons, D.solids, D.solid, V7, ih, Bool.and_self]
theorem Zgt {L : List (List Int)} {i : Nat} (h : i < L.length) : (L.map fun l => D.sl true 1 (Ze l))[i]? = some (.sl true 1 (Ze (L.getD i []))) := H0 [] h
theorem Zxm {L : List (List Int)} {i : Nat} (h : i < L.length) : (L.map fun l => D.sl false 1 (Ze l))[i]? = some (.sl false 1 (Ze (L.getD i []))) := H0 [] h
theorem V1 {id sz : Nat} {l l' : List (List Int)} (h : l = l') : AV.own id (.sl true sz (LL l)) = AV.own id (.sl true sz (LL l')) := by rw [h]
section
variable {d : Nat} {s x : Operand} {T : TypeId} {rd rd2 : List Nat} {up up2 : List (Nat × AV)} {ty : TypeId} {pos : String} {aft : Array Edge} {g : Option (Nat × Bool)}
theorem Zde {l : List Int} {v : Int} [hT : Zu P T 1] (h : Vw st s rd (.sl true 1 (Ze l)) up) (hv : U3 (Zn st up) x rd2 1 [.lit (.int .i64 v)]) (hb : l.length <= 1099511627000) (hd : n d = true) :
  Zg P n ⟨some d, .call ⟨.builtin .append, #[s, x], #[T, T]⟩, ty, pos, aft, g⟩ nid st (rd ++ rd2) (up ++ [(d, .own nid (.sl true 1 (Ze (l ++ [v]))))]) := by
 have := Vj (P := P) (n := n) (nid := nid) (d := d) (T := T) (ty := ty) (pos := pos) (aft := aft) (g := g) h hv (by simp [D.plain]) u4 hd
 rwa [show Ze l ++ [.lit (.int .i64 v)] = Ze (l ++ [v]) by simp [Ze]] at this
theorem Zaa {t : Nat} {l m : List Int} [hT : Zu P T 1] (h : Vw st s rd (.sl true 1 (Ze l)) up) (hv : Zn st up t = .c (.sl false 1 (Ze m))) (hb : l.length + m.length <= 1099511627776) (hd : n d = true) :
  Zg P n ⟨some d, .call ⟨.builtin .append, #[s, .tmp t], #[T, T]⟩, ty, pos, aft, g⟩ nid st (rd ++ [t]) (up ++ [(d, .own nid (.sl true 1 (Ze (l ++ m))))]) := by
 have := Kq (P := P) (n := n) (nid := nid) (d := d) (T := T) (ty := ty) (pos := pos) (aft := aft) (g := g) h hv (by simpa using hb) hd
 rwa [show Ze l ++ Ze m = Ze (l ++ m) by simp [Ze]] at this
theorem Zfa {t : Nat} {sz : Nat} {ds : List D} [hT : Zu P T sz] (h : Vw st s rd (.sl true sz []) up) (hv : Zn st up t = .c (.sl false sz ds)) (hb : ds.length <= 1099511627776) (hd : n d = true) :
  Zg P n ⟨some d, .call ⟨.builtin .append, #[s, .tmp t], #[T, T]⟩, ty, pos, aft, g⟩ nid st (rd ++ [t]) (up ++ [(d, .own nid (.sl true sz ds))]) := by
 have := Kq (P := P) (n := n) (nid := nid) (d := d) (T := T) (ty := ty) (pos := pos) (aft := aft) (g := g) h hv (by simpa using hb) hd
 simpa only [List.nil_append] using this
theorem Zbv {sz : Nat} {ds : List D} [hT : Zu P T sz] (h : Vw st s rd (.sl true sz []) up) (hv : Vw (Zn st up) x rd2 (.sl true sz ds) up2) (hb : ds.length <= 1099511627776) (hd : n d = true) :
  Zg P n ⟨some d, .call ⟨.builtin .append, #[s, x], #[T, T]⟩, ty, pos, aft, g⟩ nid st (rd ++ rd2) ((up ++ up2) ++ [(d, .own nid (.sl true sz ds))]) := by
 have := Xl (P := P) (n := n) (nid := nid) (d := d) (T := T) (ty := ty) (pos := pos) (aft := aft) (g := g) h hv (by simpa using hb) hd
 simpa only [List.nil_append] using this
theorem U1 {l m : List Int} [hT : Zu P T 1] (h : Vw st s rd (.sl true 1 (Ze l)) up) (hv : U3 (Zn st up) x rd2 1 (Ze m)) (hb : l.length + m.length <= 1099511627776) (hd : n d = true) :
  Zg P n ⟨some d, .call ⟨.builtin .append, #[s, x], #[T, T]⟩, ty, pos, aft, g⟩ nid st (rd ++ rd2) (up ++ [(d, .own nid (.sl true 1 (Ze (l ++ m))))]) := by
 have := Vj (P := P) (n := n) (nid := nid) (d := d) (T := T) (ty := ty) (pos := pos) (aft := aft) (g := g) h hv (Zo4 m) (by simpa using hb) hd
 rwa [show Ze l ++ Ze m = Ze (l ++ m) by simp [Ze]] at this
theorem Ki {L : List (List Int)} {l : List Int} [hT : Zu P T 1] (h : Vw st s rd (.sl true 1 (LL L)) up) (hv : Vw (Zn st up) x rd2 (.sl true 1 [.sl true 1 (Ze l)]) up2) (hb : L.length <= 1099511627000) (hd : n d = true) :
  Zg P n ⟨some d, .call ⟨.builtin .append, #[s, x], #[T, T]⟩, ty, pos, aft, g⟩ nid st (rd ++ rd2) ((up ++ up2) ++ [(d, .own nid (.sl true 1 (LL (L ++ [l]))))]) := by
 have := Xl (P := P) (n := n) (nid := nid) (d := d) (T := T) (ty := ty) (pos := pos) (aft := aft) (g := g) h hv u4 hd
 rwa [show LL L ++ [.sl true 1 (Ze l)] = LL (L ++ [l]) by simp [LL]] at this
end
class Zk1 (P : Program) (T : TypeId) : Prop where
 out : P.underlying T = some .bool
theorem K7 {T : TypeId} [h : Zk1 P T] (a b : Bool) (w : World) : (Op.equal T (.bool a) (.bool b)).run P w = .ok (a == b) w := run_equalIn_bool w 9999 T a b h.out
theorem Zi1 {d : Nat} {T T' : TypeId} {x y : Operand} {a b : Bool} {ty pos aft g} [Zk1 P T] (hx : Lit st x (.bool a)) (hy : Lit st y (.bool b)) (hd : n d = true) : Zg P n ⟨some d, .binOp .eql T x y T', ty, pos, aft, g⟩ nid st (Z5 x ++ Z5 y) [(d, .c (.lit (.bool (decide (a = b)))))] :=
 Vo hx hy rfl (fun w => by simp [Zbn, binOp, K7]; rfl) hd
theorem Zi2 {d : Nat} {T T' : TypeId} {x y : Operand} {a b : Bool} {ty pos aft g} [Zk1 P T] (hx : Lit st x (.bool a)) (hy : Lit st y (.bool b)) (hd : n d = true) : Zg P n ⟨some d, .binOp .neq T x y T', ty, pos, aft, g⟩ nid st (Z5 x ++ Z5 y) [(d, .c (.lit (.bool (decide (a ≠ b)))))] :=
 Vo hx hy rfl (fun w => by simp [Zbn, binOp, K7, bne]; rfl) hd
end
end Go.Pv
namespace Go.Proofs.YtmgmpnhlehonmaaGreat
def Adj (E : List (List Int)) (x y : Int) : Prop := [x, y] ∈ E \/ [y, x] ∈ E
theorem Adj.symm {E : List (List Int)} {x y : Int} (h : Adj E x y) : Adj E y x := Or.symm h
def NB (E : List (List Int)) : List Int -> Prop
 | x :: y :: z :: l => Adj E x y /\ x ≠ z /\ NB E (y :: z :: l)
 | [x, y] => Adj E x y
 | _ => True
theorem NB.tail {E : List (List Int)} : ∀ {x : Int} {l : List Int}, NB E (x :: l) -> NB E l
 | _, [], _ => trivial
 | _, [_], _ => trivial
 | _, _ :: _ :: _, h => h.2.2
theorem NB.adj {E : List (List Int)} : ∀ {x y : Int} {l : List Int}, NB E (x :: y :: l) -> Adj E x y
 | _, _, [], h => h
 | _, _, _ :: _, h => h.1
theorem NB.cons {E : List (List Int)} {x y : Int} {l : List Int} (h : NB E (y :: l)) (ha : Adj E x y) (hx : ∀ z l', l = z :: l' -> x ≠ z) : NB E (x :: y :: l) := by
 cases l with
 | nil => exact ha
 | cons z l => exact ⟨ha, hx z l rfl, h⟩
theorem NB.mono {E E' : List (List Int)} (hE : ∀ e ∈ E, e ∈ E') : ∀ {l : List Int}, NB E l -> NB E' l
 | [], _ => trivial
 | [_], _ => trivial
 | [_, _], h => h.imp (hE _) (hE _)
 | _ :: _ :: _ :: _, h => ⟨h.1.imp (hE _) (hE _), h.2.1, NB.mono hE h.2.2⟩
theorem NB.right {E : List (List Int)} : ∀ (p : List Int) {q : List Int}, NB E (p ++ q) -> NB E q
 | [], _, h => h
 | _ :: p, q, h => NB.right p (NB.tail h)
theorem NB.left {E : List (List Int)} : ∀ (p : List Int) {q : List Int}, NB E (p ++ q) -> NB E p
 | [], _, _ => trivial
 | [_], _, _ => trivial
 | [_, _], _, h => NB.adj h
 | _ :: _ :: _ :: p, q, h => ⟨h.1, h.2.1, NB.left _ (q := q) h.2.2⟩
theorem NB.join {E : List (List Int)} : ∀ (p : List Int) {x : Int} {q : List Int}, NB E (p ++ [x]) -> NB E (x :: q) -> (∀ p' y z q', p = p' ++ [y] -> q = z :: q' -> y ≠ z) -> NB E (p ++ x :: q)
 | [], x, q, _, h2, _ => h2
 | [y], x, q, h1, h2, h3 => NB.cons h2 h1 (fun z l' e => h3 [] y z l' rfl e)
 | y :: y2 :: p, x, q, h1, h2, h3 => by
  have ih := NB.join (y2 :: p) (NB.tail h1) h2 (fun p' a b q' e1 e2 => h3 (y :: p') a b q' (by rw [e1]; rfl) e2)
  refine NB.cons ih (NB.adj h1) fun z l' e => ?_
  cases p with
  | nil =>
   obtain ⟨rfl, rfl⟩ := List.cons.inj e
   exact h1.2.1
  | cons a p =>
   obtain ⟨rfl, rfl⟩ := List.cons.inj e
   exact h1.2.1
theorem NB.snoc {E : List (List Int)} {p : List Int} {x y : Int} (h : NB E (p ++ [x])) (ha : Adj E x y) (hy : ∀ p' z, p = p' ++ [z] -> z ≠ y) : NB E (p ++ [x, y]) :=
 NB.join p h (show NB E [x, y] from ha) (fun p' a b q' e1 e2 => by
  obtain ⟨rfl, rfl⟩ := List.cons.inj e2
  exact hy p' a e1)
theorem NB.reverse {E : List (List Int)} : ∀ {l : List Int}, NB E l -> NB E l.reverse
 | [], _ => trivial
 | [_], _ => trivial
 | [x, y], h => Or.symm h
 | x :: y :: z :: l, h => by
  have ih := NB.reverse h.2.2
  rw [List.reverse_cons, List.reverse_cons, List.append_assoc]
  rw [List.reverse_cons] at ih
  refine NB.snoc ih h.1.symm fun p' a e => ?_
  rw [List.reverse_cons] at e
  obtain ⟨_, e⟩ := List.append_inj' e rfl
  obtain ⟨rfl⟩ := List.cons.inj e
  exact fun e => h.2.1 e.symm
def Jt (E : List (List Int)) : Prop := ∀ l, NB E l -> l.Nodup
structure Sep (E : List (List Int)) (lab : Int -> Int) : Prop where
 same : ∀ x y, Adj E x y -> lab x = lab y
theorem Sep.nb {E : List (List Int)} {lab : Int -> Int} (h : Sep E lab) : ∀ {l : List Int}, NB E l -> ∀ x ∈ l, ∀ y ∈ l, lab x = lab y
 | [], _, x, hx, _, _ => by cases hx
 | [a], _, x, hx, y, hy => by simp at hx hy; rw [hx, hy]
 | a :: b :: l, hn, x, hx, y, hy => by
  have ih := Sep.nb h (NB.tail hn)
  have e := h.same a b (NB.adj hn)
  have key : ∀ x ∈ a :: b :: l, lab x = lab b := by
   intro x hx
   rcases List.mem_cons.1 hx with rfl | hx
   ·exact e
   ·exact ih x hx b (by simp)
  rw [key x hx, key y hy]
theorem Zm0 {E : List (List Int)} {lab : Int -> Int} {a b : Int} (hs : Sep E lab) (hf : Jt E) (hab : lab a ≠ lab b) : Jt (E ++ [[a, b]]) := by
 have hne : a ≠ b := fun e => hab (by rw [e])
 have key : ∀ l, NB (E ++ [[a, b]]) l -> NB E l \/ ∃ p u v q, l = p ++ u :: v :: q /\ NB E (p ++ [u]) /\ NB E (v :: q) /\ ((u = a /\ v = b) \/ (u = b /\ v = a)) := by
  intro l
  induction l with
  | nil => exact fun _ => .inl trivial
  | cons x l ih =>
   intro h
   cases l with
   | nil => exact .inl trivial
   | cons y l =>
    have hadj := NB.adj h
    have hold : Adj E x y \/ ((x = a /\ y = b) \/ (x = b /\ y = a)) := by
     rcases hadj with h1 | h1 <;> simp only [List.mem_append, List.mem_singleton, List.cons.injEq, and_true] at h1 <;> rcases h1 with h1 | h1
     ·exact .inl (.inl h1)
     ·exact .inr (.inl h1)
     ·exact .inl (.inr h1)
     ·exact .inr (.inr ⟨h1.2, h1.1⟩)
    have hback : ∀ z l', l = z :: l' -> x ≠ z := by
     rintro z l' rfl
     exact h.2.1
    rcases ih (NB.tail h) with h1 | ⟨p, u, v, q, e, h1, h2, h3⟩
    ·rcases hold with h4 | h4
     ·exact .inl (NB.cons h1 h4 hback)
     ·exact .inr ⟨[], x, y, l, rfl, trivial, h1, h4⟩
    ·rcases hold with h4 | h4
     ·refine .inr ⟨x :: p, u, v, q, by rw [e]; rfl, ?_, h2, h3⟩
      cases p with
      | nil =>
       simp only [List.nil_append, List.cons.injEq] at e
       obtain ⟨rfl, rfl⟩ := e
       exact h4
      | cons y' p =>
       simp only [List.cons_append, List.cons.injEq] at e
       obtain ⟨rfl, rfl⟩ := e
       refine NB.cons h1 h4 fun z l' e => ?_
       cases p with
       | nil =>
        obtain ⟨rfl, rfl⟩ := List.cons.inj e
        exact hback _ _ rfl
       | cons z' p =>
        obtain ⟨rfl, rfl⟩ := List.cons.inj e
        exact hback _ _ rfl
     ·exfalso
      cases p with
      | nil =>
       simp only [List.nil_append, List.cons.injEq] at e
       obtain ⟨rfl, rfl⟩ := e
       have := hback _ _ rfl
       grind
      | cons y' p =>
       simp only [List.cons_append, List.cons.injEq] at e
       obtain ⟨rfl, e⟩ := e
       have e1 := hs.nb h1 y (by simp) u (by simp)
       have hnd := hf _ h1
       simp only [List.cons_append, List.nodup_cons, List.mem_append, List.mem_singleton, not_or] at hnd
       grind
 intro l hl
 rcases key l hl with h | ⟨p, u, v, q, rfl, h1, h2, h3⟩
 ·exact hf l h
 ·have n1 := hf _ h1
  have n2 := hf _ h2
  have e : p ++ u :: v :: q = (p ++ [u]) ++ (v :: q) := by simp
  rw [e, List.nodup_append]
  refine ⟨n1, n2, fun x hx y hy exy => ?_⟩
  subst exy
  have e1 := hs.nb h1 x hx u (by simp)
  have e2 := hs.nb h2 x hy v (by simp)
  rcases h3 with ⟨rfl, rfl⟩ | ⟨rfl, rfl⟩
  ·exact hab (e1.symm.trans e2)
  ·exact hab (e2.symm.trans e1)
theorem Zo5 : Jt [] := by
 intro l hl
 match l, hl with
 | [], _ => exact List.nodup_nil
 | [x], _ => simp
 | x :: y :: l, h => exact absurd (NB.adj h) (by simp [Adj])
theorem NB.unique {E : List (List Int)} (hf : Jt E) {r : Int} : ∀ {p q : List Int}, NB E (p ++ [r]) -> NB E (q ++ [r]) -> (p ++ [r]).head? = (q ++ [r]).head? -> p = q
 | [], [], _, _, _ => rfl
 | [], x :: q, _, h2, he => by
  simp only [List.nil_append, List.head?_cons, List.cons_append, Option.some.injEq] at he
  subst he
  have := hf _ h2
  simp at this
 | x :: p, [], h1, _, he => by
  simp only [List.nil_append, List.head?_cons, List.cons_append, Option.some.injEq] at he
  subst he
  have := hf _ h1
  simp at this
 | x :: p, y :: q, h1, h2, he => by
  simp only [List.head?_cons, List.cons_append, Option.some.injEq] at he
  subst he
  congr 1
  refine NB.unique hf (NB.tail h1) (NB.tail h2) ?_
  obtain ⟨a, l1, e1⟩ : ∃ a l1, p ++ [r] = a :: l1 := by cases p <;> simp
  obtain ⟨b, l2, e2⟩ : ∃ b l2, q ++ [r] = b :: l2 := by cases q <;> simp
  by_cases hab : a = b
  ·rw [e1, e2, hab]; rfl
  ·exfalso
   have r1 := NB.reverse h1
   rw [List.cons_append, e1] at r1 h1
   rw [List.reverse_cons] at r1
   rw [List.cons_append, e2] at h2
   have hj := NB.join _ r1 h2 (fun p' y z q' k1 k2 => by
    rw [List.reverse_cons] at k1
    obtain ⟨_, k1⟩ := List.append_inj' k1 rfl
    obtain ⟨rfl⟩ := List.cons.inj k1
    obtain ⟨rfl, _⟩ := List.cons.inj k2
    exact hab)
   have hn := hf _ hj
   rw [List.nodup_append] at hn
   refine hn.2.2 r (by rw [List.mem_reverse, <- e1]; simp) r (by rw [<- e2]; simp) rfl
end Go.Proofs.YtmgmpnhlehonmaaGreat
