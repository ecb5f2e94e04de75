/- Intersection matrices, valences, components and blow-ups: the facts of a law (plain), and its comparisons. No condition. -/
import Derived.Test.YtneomlnhlpkbjaaGreatMBsC
import Derived.Test.YtneomlnhlpkbjaaGreatMGdD
import Derived.Test.YtneomlnhlpkbjaaGreatMHeB
import Derived.Test.YtneomlnhlpkbjaaGreatRows
import Derived.Test.YtneomlnhlpkbjaaGreatMGwC
import Derived.Test.YtneomlnhlpkbjaaGreatMGvE
set_option linter.unusedVariables false
set_option linter.unusedSimpArgs false
namespace Go.Proofs.YtneomlnhlpkbjaaGreat
set_option maxHeartbeats 20000000
open Go.Pv
open Go.ChangeShapes Go.WideShapes Go.ChangeAt Go.RowKit
attribute [local irreducible] RunU WpA Step CallG CallNG Done DoneN
theorem flat_by (l : List Int) : (l.map fun x => [D.lit (.int .u8 x)]).flatten = bytes l := by
  induction l with
  | nil => rfl
  | cons a l ih => rw [List.map_cons, List.flatten_cons, ih]; rfl
theorem sees_by {P : Program} {t e : TypeId} {ts zs} (hu : P.underlying t = some (.slice e)) (he : P.underlying e = some (.int .u8)) (hc : P.cellsOf e = 1) (h : Sees P (t :: ts) zs) :
    ∃ (l : List Int) (zs' : List Arg), zs = aBy l :: zs' ∧ By l ∧ Sees P ts zs' := by
  obtain ⟨d, zs', rfl, h1, h2⟩ := sees_one (fun fs => by rw [hu]; simp) h
  obtain ⟨parts, ee, h3, h4⟩ := ty_slice hu h1
  cases ee
  obtain ⟨l, rfl, hl⟩ := tyL_map (fun x : Int => [D.lit (.int .u8 x)]) (fun x => 0 ≤ x ∧ x ≤ 255) h3 (fun p hp => by
    obtain ⟨n, e, hn⟩ := ty_int he hp
    exact ⟨n, e, by simpa [Go.Lit.wf, IntKind.min, IntKind.max, IntKind.signed, IntKind.bits] using hn⟩)
  rw [hc, flat_by]
  have h4 : l.length ≤ maxLen := by simpa using h4
  refine ⟨l, zs', rfl, ⟨by unfold maxLen at h4; omega, fun i => ?_⟩, h2⟩
  by_cases hi : i < l.length
  · exact hl _ (by rw [List.getD_eq_getElem?_getD, List.getElem?_eq_getElem hi]; exact List.getElem_mem hi)
  · rw [List.getD_eq_getElem?_getD, List.getElem?_eq_none (by omega)]; simp
end Go.Proofs.YtneomlnhlpkbjaaGreat
namespace Go.Proofs.YtneomlnhlpkbjaaGreat
set_option maxHeartbeats 20000000
open Go.Pv
open Go.ChangeShapes Go.WideShapes Go.ChangeAt Go.RowKit
attribute [local irreducible] RunU WpA Step CallG CallNG Done DoneN
theorem own : ownKnob Tryz.prog.godebug = none := by kernel_rfl
theorem laidOut : laidOutB Tryz.prog = true := by kernel_rfl
instance fnOk19 : FnOk Tryz.prog 19 := ⟨_, Tryz.func19, rfl, by decide⟩
instance fnOk8 : FnOk Tryz.prog 8 := ⟨_, Tryz.func8, rfl, by decide⟩
instance fnOk38 : FnOk Tryz.prog 38 := ⟨_, Tryz.func38, rfl, by decide⟩
theorem likeI_c (l : List Int) (hl : l.length ≤ 1000000) : CallA Tryz.prog 19 [aL l, aL l] [rB true] [] := by
  refine callA_of _ Tryz.func19 rfl Tryz.ntmps19 solid_any ?_
  repeat' (first | refine Two.mk (fun _ => ?_) (fun _ => ?_) | refine goA ?_ | (refine neA ?_; first | refine nxA ?_ | refine Done.ret (.one res_any .nil) (.sh (.sh .nil)) ?_ rfl) | fail)
  all_goals try (exfalso; simp_all; done)
  refine WpA.loop_slots (ι := Nat) (fun j => [(0, .c (.sl false 1 (ints l))), (1, .c (.sl false 1 (ints l))), (5, .c (.lit (.int .i64 j)))]) (fun j => j ≤ l.length) (fun j => l.length - j) 0 (by omega) ⟨rfl, rfl, rfl, trivial⟩ ?_
  intro j s nx hj
  by_cases hlt : j < l.length
  · repeat' (first | refine Two.mk (fun _ => ?_) (fun _ => ?_) | refine goA ?_ | (refine neA ?_; first | refine nxA ?_ | refine Done.ret (.one res_any .nil) (.sh (.sh .nil)) ?_ rfl) | fail)
    all_goals try (exfalso; simp_all; done)
    all_goals try (exfalso; omega)
    all_goals exact ⟨j + 1, by omega, ⟨rfl, rfl, int_eq (by omega), trivial⟩, by omega⟩
  · repeat' (first | refine Two.mk (fun _ => ?_) (fun _ => ?_) | refine goA ?_ | (refine neA ?_; first | refine nxA ?_ | refine Done.ret (.one res_any .nil) (.sh (.sh .nil)) ?_ rfl) | fail)
    all_goals first | rfl | (exfalso; omega)
theorem bigG_c (l : List Int) (hl : l.length ≤ 9223372036854775807) : CallA Tryz.prog 8 [aBy l] [rB (decide (4096 < l.length))] [] := by
  have e : decide (4096 < l.length) = decide ((l.length : Int) > 4096) := decide_eq_decide.2 (by omega)
  rw [e]
  refine callA_of _ Tryz.func8 rfl Tryz.ntmps8 solid_any ?_
  repeat' (first | refine Two.mk (fun _ => ?_) (fun _ => ?_) | refine goA ?_ | (refine neA ?_; first | refine nxA ?_ | refine Done.ret (.one res_any .nil) (.sh .nil) ?_ rfl) | fail)
  all_goals rfl
end Go.Proofs.YtneomlnhlpkbjaaGreat
namespace Go.Proofs.YtneomlnhlpkbjaaGreat
set_option maxHeartbeats 20000000
open Go.Pv
open Go.ChangeShapes Go.WideShapes Go.ChangeAt Go.RowKit
attribute [local irreducible] RunU WpA Step CallG CallNG Done DoneN
instance fnOk14 : FnOk Tryz.prog 14 := ⟨_, Tryz.func14, rfl, by decide⟩
instance fnOk29 : FnOk Tryz.prog 29 := ⟨_, Tryz.func29, rfl, by decide⟩
instance fnOk12 : FnOk Tryz.prog 12 := ⟨_, Tryz.func12, rfl, by decide⟩
theorem gr_gd {w : List Int} {E : List (List Int)} (hg : IsGr w E) : GoodE w.length E := hg.2.2.1
theorem mtx_ent {w : List Int} {E : List (List Int)} {i k : Nat} (hi : i < w.length) (hk : k < w.length) : ((mtx w E w.length).getD (i * 1) []).getD (k * 1) 0 = if k = i then w.getD (i * 1) 0 else if (k : Int) ∈ near E i then 1 else 0 := by
  rw [Nat.mul_one, Nat.mul_one, mtx_at w E hi]
  unfold rowT
  rw [vecF_at _ hk, List.take_length]
theorem near_symm {w : List Int} {E : List (List Int)} (hg : IsGr w E) {i k : Int} : k ∈ near E i ↔ i ∈ near E k := by
  rw [near_mem (gr_gd hg), near_mem (gr_gd hg)]
  exact ⟨Adj.symm, Adj.symm⟩
def cntM (E : List (List Int)) (i : Nat) (j : Nat) : Nat := ((List.range j).filter fun k : Nat => decide ((k : Int) ∈ near E i)).length
theorem cntM_zero (E : List (List Int)) (i : Nat) : cntM E i 0 = 0 := rfl
theorem cntM_succ (E : List (List Int)) (i j : Nat) : cntM E i (j + 1) = cntM E i j + if (j : Int) ∈ near E i then 1 else 0 := by
  unfold cntM
  rw [List.range_succ, List.filter_append, List.length_append]
  congr 1
  by_cases h : (j : Int) ∈ near E i <;> simp [h]
theorem cntM_le (E : List (List Int)) (i j : Nat) : cntM E i j ≤ j := by
  unfold cntM
  exact Nat.le_trans (List.length_filter_le _ _) (by simp)
theorem cntM_end {w : List Int} {E : List (List Int)} (hg : IsGr w E) (i : Nat) : cntM E i w.length = (near E i).length := by
  unfold cntM
  have h1 : (((List.range w.length).filter fun k : Nat => decide ((k : Int) ∈ near E i)).map fun k : Nat => (k : Int)).Perm (near E i) := by
    refine (List.perm_ext_iff_of_nodup ?_ (near_nodup (gr_gd hg) i)).2 fun x => ?_
    · rw [List.nodup_iff_pairwise_ne, List.pairwise_map]
      exact ((List.nodup_range (n := w.length)).filter _).imp fun h q => h (by omega)
    · simp only [List.mem_map, List.mem_filter, List.mem_range, decide_eq_true_eq]
      constructor
      · rintro ⟨k, ⟨_, h⟩, rfl⟩; exact h
      · intro h
        have := (gr_gd hg).adj ((near_mem (gr_gd hg)).1 h)
        exact ⟨x.toNat, ⟨by omega, by rwa [show ((x.toNat : Nat) : Int) = x by omega]⟩, by omega⟩
  have h2 := h1.length_eq
  rwa [List.length_map] at h2
theorem lab_near {w : List Int} {E : List (List Int)} (hg : IsGr w E) {i k : Nat} (hi : i < w.length) (hk : k < w.length) (h : (k : Int) ∈ near E i) : (cmpL w E).getD (i * 1) 0 = (cmpL w E).getD (k * 1) 0 := by
  rw [Nat.mul_one, Nat.mul_one, cmpL_at hi, cmpL_at hk, hg.sep.same i k ((near_mem (gr_gd hg)).1 h)]
structure MtF (w : List Int) (E : List (List Int)) (M : List (List Int)) (V L : List Int) : Prop where
  ml : M.length = w.length
  vl : V.length = w.length
  ll : L.length = w.length
  mr : ∀ i, i < w.length → (M.getD (i * 1) []).length = w.length
  dia : ∀ i, i < w.length → (M.getD (i * 1) []).getD (i * 1) 0 = w.getD (i * 1) 0
  off : ∀ i k, i < w.length → k < w.length → k ≠ i → (M.getD (i * 1) []).getD (k * 1) 0 = (M.getD (k * 1) []).getD (i * 1) 0 ∧
    (((M.getD (i * 1) []).getD (k * 1) 0 = 0 ∧ cntM E i (k + 1) = cntM E i k) ∨ ((M.getD (i * 1) []).getD (k * 1) 0 = 1 ∧ L.getD (i * 1) 0 = L.getD (k * 1) 0 ∧ cntM E i (k + 1) = cntM E i k + 1))
  slf : ∀ i, i < w.length → cntM E i (i + 1) = cntM E i i
  val : ∀ i, i < w.length → V.getD (i * 1) 0 = cntM E i w.length
theorem mt_facts {w : List Int} {E : List (List Int)} (hg : IsGr w E) : MtF w E (mtx w E w.length) (valL E w.length) (cmpL w E) where
  ml := mtx_len w E w.length
  vl := valL_len E w.length
  ll := cmpL_len w E
  mr i hi := by rw [Nat.mul_one, mtx_at w E hi]; exact rowT_len _ _ _ _
  dia i hi := by rw [mtx_ent hi hi, if_pos rfl]
  off i k hi hk hne := by
    rw [mtx_ent hi hk, mtx_ent hk hi, if_neg hne, if_neg (Ne.symm hne), cntM_succ]
    by_cases h : (k : Int) ∈ near E i
    · rw [if_pos h, if_pos ((near_symm hg).1 h), if_pos h]
      exact ⟨rfl, .inr ⟨rfl, lab_near hg hi hk h, rfl⟩⟩
    · rw [if_neg h, if_neg (fun q => h ((near_symm hg).2 q)), if_neg h]
      exact ⟨rfl, .inl ⟨rfl, rfl⟩⟩
  slf i hi := by
    rw [cntM_succ, if_neg fun h => ((gr_gd hg).adj ((near_mem (gr_gd hg)).1 h)).2.2 rfl]
    rfl
  val i hi := by rw [Nat.mul_one, valL_at hi, cntM_end hg]
theorem specIG_c (w : List Int) (E : List (List Int)) (hw : w.length ≤ 2000000) (hE : E.length ≤ 2000000) : CallA Tryz.prog 14 [aGr w E] [rB (decide (IsGr w E))] [] := by
  have h := specIsGraph_c w E hw hE
  generalize decide (IsGr w E) = q at *
  refine callA_of _ Tryz.func14 rfl Tryz.ntmps14 solid_any ?_
  repeat' (first | refine Two.mk (fun _ => ?_) (fun _ => ?_) | (guard_target =~ CallN_; first | refine RunU.cons (step_call (h) (.sh .nil) (.shAgg rfl aggs_any .nil) rfl) ?_) | refine goA ?_ | (refine neA ?_; first | refine nxA ?_ | refine Done.ret (.one res_any .nil) (.sh .nil) ?_ rfl) | fail)
  all_goals rfl
structure Sm3 (w : List Int) (E : List (List Int)) : Prop where
  lw : w.length ≤ 1000
  le : E.length ≤ 1000
  lr : ∀ i, (E.getD i []).length ≤ 1000
theorem gr_sm3 {w : List Int} {E : List (List Int)} (hg : IsGr w E) : Sm3 w E := by
  have h1 := len_gr hg
  have h2 := hg.few
  exact ⟨by omega, by omega, fun i => by have := row_len hg i; omega⟩
theorem nil_sm3 : Sm3 [] [] := ⟨by simp, by simp, by simp⟩
theorem same9w_c (A : List (List Int)) (hA : A.length ≤ 1000) (ha : ∀ i, (A.getD i []).length ≤ 1000) : CallA Tryz.prog 29 [aLL A, aLL A] [rB true] [] := by
  refine callA_of _ Tryz.func29 rfl Tryz.ntmps29 solid_any ?_
  repeat' (first | refine Two.mk (fun _ => ?_) (fun _ => ?_) | refine goA ?_ | (refine neA ?_; first | refine nxA ?_ | refine Done.ret (.one res_any .nil) (.sh (.sh .nil)) ?_ rfl) | fail)
  all_goals try (exfalso; simp_all; done)
  refine WpA.loop_slots (ι := Nat) (fun j => [(0, .c (.sl false 1 (LLs A))), (1, .c (.sl false 1 (LLs A))), (5, vG j)]) (fun j => j ≤ A.length) (fun j => A.length - j) 0 (by omega) ⟨rfl, rfl, rfl, trivial⟩ ?_
  intro j s nx hj
  by_cases hlt : j < A.length
  · have h := likeI_c (A.getD (j * 1) []) (by have := ha (j * 1); omega)
    clear ha
    repeat' (first | refine Two.mk (fun _ => ?_) (fun _ => ?_) | (guard_target =~ CallN_; first | refine RunU.cons (step_call (h) (.sh (.sh .nil)) (.sh shows_any (.sh shows_any .nil)) rfl) ?_) | refine goA ?_ | (refine neA ?_; first | refine nxA ?_ | refine Done.ret (.one res_any .nil) (.sh (.sh .nil)) ?_ rfl) | fail)
    all_goals try (exfalso; simp_all; done)
    all_goals try (exfalso; omega)
    all_goals exact ⟨j + 1, by omega, ⟨rfl, rfl, int_eq (by omega), trivial⟩, by omega⟩
  · clear ha
    repeat' (first | refine Two.mk (fun _ => ?_) (fun _ => ?_) | refine goA ?_ | (refine neA ?_; first | refine nxA ?_ | refine Done.ret (.one res_any .nil) (.sh (.sh .nil)) ?_ rfl) | fail)
    all_goals first | rfl | (exfalso; omega)
theorem graph9w_c (w : List Int) (E : List (List Int)) (h : Sm3 w E) : CallA Tryz.prog 12 [aGr w E, aGr w E] [rB true] [] := by
  have h1 := likeI_c w (by have := h.lw; omega)
  have h2 := same9w_c E h.le h.lr
  clear h
  refine callA_of _ Tryz.func12 rfl Tryz.ntmps12 solid_any ?_
  repeat' (first | refine Two.mk (fun _ => ?_) (fun _ => ?_) | (guard_target =~ CallN_; first | refine RunU.cons (step_call (h1) (.sh (.sh .nil)) (.sh shows_any (.sh shows_any .nil)) rfl) ?_ | refine RunU.cons (step_call (h2) (.sh (.sh .nil)) (.sh shows_any (.sh shows_any .nil)) rfl) ?_) | refine goA ?_ | (guard_target =~ IsG; first | refine psA ?_ | (guard_target =~ CallS_; first | refine RunU.doit rfl rfl (step_call (h1) (.sh (.sh .nil)) (.sh shows_any (.sh shows_any .nil)) rfl) ?_ | refine RunU.doit rfl rfl (step_call (h2) (.sh (.sh .nil)) (.sh shows_any (.sh shows_any .nil)) rfl) ?_) | refine gdA ?_) | (refine neA ?_; first | refine nxA ?_ | refine Done.ret (.one res_any .nil) (.sh (.sh .nil)) ?_ rfl) | fail)
  all_goals first | rfl | (exfalso; simp_all; done)
structure BvF (w : List Int) (E : List (List Int)) (W : List Int) (F : List (List Int)) : Prop where
  gr : IsGr W F
  back : CallA Tryz.prog 20 [aGr W F, aI (w.length : Int)] [rGr w E, rI 0] []
  det : (gdR w E).2 = 0 → (gdR W F).2 = 0 → (gdR w E).1 = (gdR W F).1
theorem bv_cases {w : List Int} {E : List (List Int)} (hg : IsGr w E) (v : Int) : (∃ c : Int, c ≠ 0 ∧ bvR w E v = (([], []), c)) ∨ ∃ W F, bvR w E v = ((W, F), 0) ∧ BvF w E W F ∧ (bdC w E = 0 → bdC W F = 0 → ndB w E = ndB W F) := by
  by_cases hv : 0 ≤ v ∧ v < w.length
  · by_cases hr : RoomV w v
    · have hr' := hr
      obtain ⟨h1, h2⟩ := hr'
      have hG := bv_gr hg hv h1 h2
      have hlG := len_gr hG
      have hC := implCV_c (bvW w v) (bvE w E v) (w.length : Int) (by omega) (by have := hG.few; omega)
      rw [cvR_0 hG (by rw [bvW_len]; omega) (bv_can hg hv) (bv_fit hg hv), bv_backW hg hv h1 h2, bv_backE hg hv] at hC
      exact .inr ⟨_, _, bvR_0 hg hv hr, ⟨hG, hC, gdR_same hg hG (bv_det hg hv h1 h2)⟩, bv_neg hg hv hG⟩
    · exact .inl ⟨3, by decide, bvR_3 hg hv hr⟩
  · exact .inl ⟨2, by decide, bvR_2 hg hv⟩
theorem be_cases (w : List Int) (E : List (List Int)) (i k : Int) : (∃ c : Int, c ≠ 0 ∧ beQ w E i k = (([], []), c)) ∨ ∃ W F, beQ w E i k = ((W, F), 0) ∧ IsGr w E ∧ BvF w E W F := by
  by_cases hg : IsGr w E
  · by_cases hv : (0 ≤ i ∧ i < w.length) ∧ 0 ≤ k ∧ k < w.length
    · by_cases hr : RoomE w i k
      · by_cases ha : k ∈ near E i
        · have hr' := hr
          obtain ⟨h1, h2, h3⟩ := hr'
          have hA := (near_mem (gr_gd hg)).1 ha
          have hne := near_ne hg ha
          have hG := be_gr hg hv.1 hv.2 hA h1 h2 h3
          have hlG := len_gr hG
          have hC := implCV_c (beW w i k) (beE w E i k) (w.length : Int) (by omega) (by have := hG.few; omega)
          rw [cvR_0 hG (by rw [beW_len]; omega) (be_can hg hv.1 hv.2 hne) (be_fit hg hv.1 hv.2 hne), be_backW hg hv.1 hv.2 hA h1 h2 h3, be_backE hg hv.1 hv.2 hA] at hC
          exact .inr ⟨_, _, beQ_0 hg hv hr ha, hg, hG, hC, gdR_same hg hG (be_det hg hv.1 hv.2 hA h1 h2 h3)⟩
        · exact .inl ⟨5, by decide, beQ_5 hg hv hr ha⟩
      · exact .inl ⟨3, by decide, beQ_3 hg hv hr⟩
    · exact .inl ⟨2, by decide, beQ_2 hg hv⟩
  · exact .inl ⟨1, by decide, beQ_1 hg⟩
end Go.Proofs.YtneomlnhlpkbjaaGreat
