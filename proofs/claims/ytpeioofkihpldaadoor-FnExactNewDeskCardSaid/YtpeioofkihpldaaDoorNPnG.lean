/- A law that reads a table of the library: from its contract to its row. No condition. -/
import Derived.Test.YtpeioofkihpldaaDoorNPnE
import Derived.Test.YtpeioofkihpldaaDoorNPvO
import Derived.Lib.LaidTab
set_option linter.unusedVariables false
set_option linter.unusedSimpArgs false
namespace Go.Proofs.YtpeioofkihpldaaDoor
set_option maxRecDepth 100000
set_option maxHeartbeats 20000000
open Go.Pv
open Go.ChangeShapes Go.WideShapes Go.ChangeAt Go.RowKit
attribute [local irreducible] RunU WpA Step CallG CallNG Done DoneN
instance fnOk3 : FnOk Tryd.prog 3 := ⟨_, Tryd.func3, rfl, by decide⟩
attribute [local irreducible] CallZ
theorem marks_self (k : Int) (n : Nat) : marks k n = marks k (marks k n).length := by rw [marks_len]
theorem lawND_z : CallZ Z10 true Tryd.prog 3 [] [rB true] [] := by
 have hS := newSpec2_f
 have hI := newImpl_z
 obtain ⟨A, hA⟩ : ∃ A : List (List Int), A = [[2, 3]] := ⟨_, rfl⟩
 obtain ⟨B, hB⟩ : ∃ A : List (List Int), A = [[0]] := ⟨_, rfl⟩
 obtain ⟨P, hP⟩ : ∃ A : List Int, A = [-1, 0, 1] := ⟨_, rfl⟩
 obtain ⟨S, hS1⟩ : ∃ A : List Int, A = [-1, -1, 0] := ⟨_, rfl⟩
 obtain ⟨W, hW⟩ : ∃ A : List Int, A = [2, 1, 1] := ⟨_, rfl⟩
 obtain ⟨L, hL⟩ : ∃ A : List (List Int), A = [[0, 2, 1], [3, 0, 1]] := ⟨_, rfl⟩
 rw [← hA, ← hB, ← hP, ← hS1, ← hW, ← hL] at hS hI
 have lA : A.length = 1 ∧ ∀ i, (A.getD i []).length ≤ 1000 := by rw [hA]; exact ⟨rfl, fun i => by match i with | 0 => decide | i + 1 => simp⟩
 have lB : B.length = 1 ∧ ∀ i, (B.getD i []).length ≤ 1000 := by rw [hB]; exact ⟨rfl, fun i => by match i with | 0 => decide | i + 1 => simp⟩
 have lL : L.length = 2 ∧ ∀ i, (L.getD i []).length ≤ 1000 := by rw [hL]; exact ⟨rfl, fun i => by match i with | 0 => decide | 1 => decide | i + 2 => simp⟩
 have lP : P.length = 3 := by rw [hP]; rfl
 have lS : S.length = 3 := by rw [hS1]; rfl
 have lW : W.length = 3 := by rw [hW]; rfl
 clear hA hB hP hS1 hW hL
 obtain ⟨lA, ha⟩ := lA
 obtain ⟨lB, hb⟩ := lB
 obtain ⟨lL, hl⟩ := lL
 have hE := eqDesk_c A B P S W L ⟨by omega, fun i => by have := ha i; omega⟩ ⟨by omega, fun i => by have := hb i; omega⟩ ⟨by omega, by omega, by omega⟩ ⟨by omega, fun i => by have := hl i; omega⟩
 have hM := markDesk_ia A B P S W L 1 (by omega) (by omega) ha hb (by omega) (by omega) (by omega) (by omega) hl (by omega)
 have rows : ∀ (k : Int) (L : List (List Int)), (∀ i, (L.getD i []).length ≤ 1000) → ∀ i, ((marksTo k L L.length).getD i []).length ≤ 1000 := fun k L h i => by
  by_cases hi : i < L.length
  ·rw [marksTo_at k _ _ _ hi, marks_len]; exact h i
  ·rw [List.getD_eq_getElem?_getD, List.getElem?_eq_none (by rw [marksTo_len]; omega)]; simp
 have tA := marksTo_tot 1 A A.length _ (Nat.le_refl _)
 have tB := marksTo_tot (1 + tot A A.length) B B.length _ (Nat.le_refl _)
 have tL := marksTo_tot (1 + tot A A.length + tot B B.length + P.length + S.length + W.length) L L.length _ (Nat.le_refl _)
 have hH := heldDesk_c (marksTo 1 A A.length) (marksTo (1 + tot A A.length) B B.length) (marks (1 + tot A A.length + tot B B.length) P.length) (marks (1 + tot A A.length + tot B B.length + P.length) S.length) (marks (1 + tot A A.length + tot B B.length + P.length + S.length) W.length) (marksTo (1 + tot A A.length + tot B B.length + P.length + S.length + W.length) L L.length) 1
  (by rw [marksTo_len]; omega) (by rw [marksTo_len]; omega) (rows _ A ha) (rows _ B hb) (by rw [marks_len]; omega) (by rw [marks_len]; omega) (by rw [marks_len]; omega) (by rw [marksTo_len]; omega) (rows _ L hl) (by omega)
  (held_marks 1 A A.length) (by rw [marksTo_len, tA]; exact held_marks _ B B.length) (by rw [marksTo_len, tA, marksTo_len, tB]; exact marks_self _ _) (by rw [marksTo_len, tA, marksTo_len, tB, marks_len]; exact marks_self _ _) (by rw [marksTo_len, tA, marksTo_len, tB, marks_len, marks_len]; exact marks_self _ _) (by rw [marksTo_len, tA, marksTo_len, tB, marks_len, marks_len, marks_len]; exact held_marks _ L L.length)
 rw [marksTo_len, tA, marksTo_len, tB, marks_len, marks_len, marks_len, marksTo_len, tL] at hH
 have hta := tot_le ha A.length
 have htb := tot_le hb B.length
 have htl := tot_le hl L.length
 clear ha hb hl rows tA tB tL
 generalize marksTo 1 A A.length = MA at *
 generalize marksTo (1 + tot A A.length) B B.length = MB at *
 generalize marksTo (1 + tot A A.length + tot B B.length + P.length + S.length + W.length) L L.length = ML at *
 generalize marks (1 + tot A A.length + tot B B.length) P.length = MP at *
 generalize marks (1 + tot A A.length + tot B B.length + P.length) S.length = MS at *
 generalize marks (1 + tot A A.length + tot B B.length + P.length + S.length) W.length = MW at *
 generalize tot A A.length = nA at *
 generalize tot B B.length = nB at *
 generalize tot L L.length = nL at *
 refine callT_of z10_in _ Tryd.func3 rfl Tryd.ntmps3 (by first | exact ⟨rfl, rfl⟩ | (simp only [List.all_cons, List.all_nil, V.solid, D.solid, D.solids, solids_ints, solids_bools, solids_LL, Bool.and_self, Bool.and_true, and_self]; done) | simp [V.solid, D.solid, D.solids, solids_lits, solids_ints, solids_bools, solids_LL]) ?_
 repeat' (first | (guard_target =~ WpA _ _ _ _ _ _; first | refine WpA.seq ?_ | refine WpA.drawU ?_ | refine WpA.regionU ?_ | refine WpA.block ?_ | refine WpA.ret ?_ | refine WpA.skip ?_ | refine WpA.exit ?_ | refine WpA.cond_true rfl ?_ | refine WpA.cond_false rfl ?_ | refine WpA.cond_ntrue rfl ?_ | (refine WpA.cond_dec rfl (fun _ => ?_) (fun _ => ?_) <;> try (exfalso; omega)) | (refine WpA.cond_not rfl (fun _ => ?_) (fun _ => ?_) <;> try (exfalso; omega)) | (refine WpA.cond rfl (fun _ => ?_) (fun _ => ?_) <;> try (exfalso; omega))) | (guard_target =~ RunU _ _ _ _ [] _ _ _ _; first | refine RunU.nilL ?_ | refine RunU.nilD (by kernel_rfl) ?_) | (guard_target =~ RunU _ _ _ _ (Oper.mk (some 7) _ _ _ _ _ :: _) _ _ _ _; refine RunU.cons (step_callZ hI (by exact z10_out rfl) .nil .nil rfl) ?_) | (guard_target =~ RunU _ _ _ _ (Oper.mk (some 23) _ _ _ _ _ :: _) _ _ _ _; refine RunU.cons (step_callZ hI (by exact z10_out rfl) .nil .nil rfl) ?_) | (guard_target =~ RunU _ _ _ _ (Oper.mk (some 6) (Op.call ⟨Callee.value _, _, _⟩) _ _ _ none :: _) _ _ _ _; first | refine RunU.consX (step_callF (hS) .nil .nil rfl rfl) ?_) | (guard_target =~ RunU _ _ _ _ (Oper.mk (some 10) (Op.call ⟨Callee.value _, _, _⟩) _ _ _ none :: _) _ _ _ _; first | refine RunU.cons (sC_ (hE) (.sh (.sh .nil)) (.shAgg rfl gA_ (.shAgg rfl gA_ .nil)) rfl) ?_) | (guard_target =~ RunU _ _ _ _ (Oper.mk (some 26) (Op.call ⟨Callee.value _, _, _⟩) _ _ _ none :: _) _ _ _ _; first | refine RunU.cons (sC_ (hE) (.sh (.sh .nil)) (.shAgg rfl gA_ (.shAgg rfl gA_ .nil)) rfl) ?_) | (guard_target =~ RunU _ _ _ _ (Oper.mk (some 14) (Op.call ⟨Callee.value _, _, _⟩) _ _ _ none :: _) _ _ _ _; first | refine RunU.cons (step_call_ia (hM) xR_ xR_ xR_ (by first | exact .nil | exact .cons rfl .nil) xR_ rfl) ?_) | (guard_target =~ RunU _ _ _ _ (Oper.mk (some 17) (Op.call ⟨Callee.value _, _, _⟩) _ _ _ none :: _) _ _ _ _; first | refine RunU.cons (sC_ (hH) (.sh (.sh .nil)) (.shAgg rfl gA_ (.sh wS_ .nil)) rfl) ?_) | (guard_target =~ RunU _ _ _ _ (Oper.mk (some 30) (Op.call ⟨Callee.value _, _, _⟩) _ _ _ none :: _) _ _ _ _; first | refine RunU.cons (sC_ (hH) (.sh (.sh .nil)) (.shAgg rfl gA_ (.sh wS_ .nil)) rfl) ?_) | (guard_target =~ RunU _ _ _ _ (Oper.mk _ _ _ _ _ none :: _) _ _ _ _; refine RunU.cons step_any ?_) | (guard_target =~ RunU _ _ _ _ (Oper.mk _ _ _ _ _ (some _) :: _) _ _ _ _; first | refine RunU.pass rfl rfl rfl rfl ?_ | refine RunU.pass_undef rfl rfl rfl ?_ | (guard_target =~ RunU _ _ _ _ (Oper.mk (some 6) (Op.call ⟨Callee.value _, _, _⟩) _ _ _ _ :: _) _ _ _ _; first | refine RunU.doit rfl rfl (step_callF (hS) .nil .nil rfl rfl) ?_) | (guard_target =~ RunU _ _ _ _ (Oper.mk (some 10) (Op.call ⟨Callee.value _, _, _⟩) _ _ _ _ :: _) _ _ _ _; first | refine RunU.doit rfl rfl (sC_ (hE) (.sh (.sh .nil)) (.shAgg rfl gA_ (.shAgg rfl gA_ .nil)) rfl) ?_) | (guard_target =~ RunU _ _ _ _ (Oper.mk (some 26) (Op.call ⟨Callee.value _, _, _⟩) _ _ _ _ :: _) _ _ _ _; first | refine RunU.doit rfl rfl (sC_ (hE) (.sh (.sh .nil)) (.shAgg rfl gA_ (.shAgg rfl gA_ .nil)) rfl) ?_) | (guard_target =~ RunU _ _ _ _ (Oper.mk (some 14) (Op.call ⟨Callee.value _, _, _⟩) _ _ _ _ :: _) _ _ _ _; first | refine RunU.doit rfl rfl (step_call_ia (hM) xR_ xR_ xR_ (by first | exact .nil | exact .cons rfl .nil) xR_ rfl) ?_) | (guard_target =~ RunU _ _ _ _ (Oper.mk (some 17) (Op.call ⟨Callee.value _, _, _⟩) _ _ _ _ :: _) _ _ _ _; first | refine RunU.doit rfl rfl (sC_ (hH) (.sh (.sh .nil)) (.shAgg rfl gA_ (.sh wS_ .nil)) rfl) ?_) | (guard_target =~ RunU _ _ _ _ (Oper.mk (some 30) (Op.call ⟨Callee.value _, _, _⟩) _ _ _ _ :: _) _ _ _ _; first | refine RunU.doit rfl rfl (sC_ (hH) (.sh (.sh .nil)) (.shAgg rfl gA_ (.sh wS_ .nil)) rfl) ?_) | refine RunU.doit rfl rfl step_any ?_ | ((fail_if_success (refine RunU.doit (rd := []) (up := []) rfl rfl ?_ ?_)); first | (refine RunU.guard_dec rfl rfl (fun _ => ?_) (fun _ => ?_) <;> try (exfalso; omega)) | (refine RunU.guard_not rfl rfl (fun _ => ?_) (fun _ => ?_) <;> try (exfalso; omega)) | (refine RunU.guard rfl rfl (fun _ => ?_) (fun _ => ?_) <;> try (exfalso; omega)))) | ((fail_if_success (guard_target =~ @Eq _ _ _)); (fail_if_success (guard_target =~ @Exists _ _)); first | (guard_target =~ Then _ _ _ _ _; refine Then.next ?_) | (guard_target =~ InBlock _ _ _ _ _; refine InBlock.next ?_) | refine Done.ret (.one (by first | exact .c rfl | exact .own rfl | exact .als rfl rfl | exact .ptr rfl rfl | exact .part rfl rfl rfl) .nil) .nil ?_ rfl))
 all_goals try first | rfl | (exfalso; omega)
end Go.Proofs.YtpeioofkihpldaaDoor
namespace Go.Pv
open Go.RowKit Go.ChangeShapes Go.WideShapes Go.Deep
section
variable {H : Type} {enc : TypeId × Value → H} {P : Program} {w : World} {base : Nat} {spare : Nat → Bool} {held : Bool} {F : Nat → Prop}
theorem law_contractZ {Z : (Nat → Prop) → World → Prop} {K : FuncId} {fn : Func} {s : ChangeSpec} {tb : TypeId} (hl : laidOutB P = true) (hts' : (fn.params.toList.all fun t => plain1 P t && P.readableRec t && decide (t < P.types.size)) = true)
  (hv : s.vars = []) (hr : fn.resultTypes = #[tb]) (hb : P.underlying tb = some .bool)
  (hs : ∀ ds : List (DataW H), ds.length = fn.params.toList.length → (s.fn H ds).results = [.lit (.bool true)] ∧ (s.fn H ds).args = ds ∧ (s.fn H ds).vars = [])
  (hc : ∀ xs9, Sees P fn.params.toList xs9 → CallZ Z true P K xs9 [.one (.lit (.bool true))] [])
  (W : World) (b0 : Nat) (args : Array Value) (ds gs : List (DataW H)) (before : List MemPlace)
  (hval : ∀ (j : Nat) t v, fn.params[j]? = some t → args[j]? = some v → Value.okWide P W .any b0 t v)
  (hZ : Z (fun g => g < W.heap.size) W) (hW : DataW.Whole enc P fn.params.toList s.vars false W args.toList ds gs before) :
  Calls P K args W fun e W' => ∃ v, e = .returned v ∧ s.post enc P fn false true false false W args v W' := by
 have hts : ∀ t ∈ fn.params.toList, plain1 P t = true ∧ P.readableRec t = true ∧ t < P.types.size := by
  intro t ht
  have := List.all_eq_true.1 hts' t ht
  simpa [and_assoc] using this
 have hlt := hW.lt
 have hW' := hW
 obtain ⟨p, q, hA, hV, rfl, hfz, hnd⟩ := hW
 rw [hv] at hV
 obtain ⟨rfl, rfl⟩ := trodVars_none hV
 simp only [List.append_nil] at hW' hlt hfz hnd
 obtain ⟨xs9, hsee, hargs⟩ := sees_of (fun t ht => (hts t ht).1) (fun j t v a b => hval j t v (by simpa using a) (by simpa using b)) hA
 refine (hc xs9 hsee W args.toList [] (fun g => g < W.heap.size) hZ (fun g hg => ⟨hg, by simp⟩) hargs (by simp) (by simp)).mono fun e W' he => ?_
 obtain ⟨us, Lr, Lo, rfl, hk, hvr, _⟩ := he
 simp only [VRs, VR, RD] at hvr
 obtain ⟨u, us', L1, L2, rfl, _, ⟨r, rfl, _, _⟩, rfl, _⟩ := hvr
 have hbel : Below W.heap.size W W' := ⟨hk.os, hk.tape, hk.output, hk.size, fun k h => hk.block k h (by simp)⟩
 have hlen : ds.length = fn.params.toList.length := by
  have : ∀ {ts : List TypeId} {vs : List Value} {ds : List (DataW H)} {ps : List MemPlace}, DataW.TrodAll enc P W 0 (fun _ => true) true ts vs ds ps → ds.length = ts.length := by
   intro ts
   induction ts with
   | nil => intro vs ds ps h; obtain ⟨_, rfl, _⟩ := trodAll_nil h; rfl
   | cons t ts ih => intro vs ds ps h; obtain ⟨_, _, _, _, _, _, rfl, rfl, rfl, _, h2⟩ := trodAll_cons h; simp [ih h2]
  exact this hA
 obtain ⟨e1, e2, e3⟩ := hs ds hlen
 refine ⟨_, rfl, ds, [], p, [], p, [], hW', ?_, ?_, ?_, hbel.frame _, fun h => by cases h⟩
 ·rw [List.append_nil, e1, hr]
  exact trodAll_mk1 (shut_bool hb _)
 ·rw [List.append_nil, e2]
  exact trodAll_below hl hbel (fun t ht => (hts t ht).2) hlt hA
 ·rw [List.append_nil, e3, hv]
  rfl
end
theorem tabZ_of {P : Program} {W : World} {name : String} {k : IntKind} {zs : List Int} {G : Nat} (hg : P.globalNamed name = some G) (h : Lib.TabIs P W name k zs) : TabZ G (zs.map fun z => Value.int k z).toArray (fun g => g < W.heap.size) W := by
 unfold Lib.TabIs World.var? at h
 rw [hg] at h
 simp only [Option.bind_some] at h
 split at h
 ·rename_i cs x y hh
  have hlt : G < W.heap.size := by
   rcases Nat.lt_or_ge G W.heap.size with h1 | h1
   ·exact h1
   ·rw [Array.getElem?_eq_none h1] at hh; cases hh
  refine ⟨hlt, x, y, ?_⟩
  rw [hh]
  exact congrArg some (by rw [Option.some.inj h])
 ·cases h
end Go.Pv
