/- Rows of truth values; nil; calls whose results share memory that nobody writes. No condition. -/
import Derived.Test.YtpdfadnpfmlfgaaGreatDoorPPvU
import Derived.Sort.Grow
import Derived.Test.YtpdfadnpfmlfgaaGreatDoorPPvA
set_option linter.unusedVariables false
set_option linter.unusedSimpArgs false
namespace Go.Pv
open Go.RowKit
section
variable {P : Program} {n : NN} {nid : Nat} {st : Nat → AV} {f : Fr} {X : Nat → Prop} {a : Act} {w : World} {ρ : Nat → Rho} {L : Nat → List Nat} {M : List Nat}
inductive BdL (st : Nat → AV) : Option Operand → List Nat → Nat → Prop
 | no : BdL st none [] 0
 | at_ {x k j} {m : Nat} : Lit st x (.int k j) → j = (m : Int) → BdL st (.some x) (rdOf x) m
inductive BdH (st : Nat → AV) (len : Nat) : Option Operand → List Nat → Nat → Prop
 | no : BdH st len none [] len
 | at_ {x k j} {m : Nat} : Lit st x (.int k j) → j = (m : Int) → BdH st len (.some x) (rdOf x) m
theorem BdL.agree {st' : Nat → AV} {x : Option Operand} {rd : List Nat} {m : Nat} (h : BdL st x rd m) (hs : ∀ s ∈ rd, st' s = st s) : BdL st' x rd m := by
 cases h with
 | no => exact .no
 | at_ h e => exact .at_ (h.agree hs) e
theorem BdH.agree {st' : Nat → AV} {len : Nat} {x : Option Operand} {rd : List Nat} {m : Nat} (h : BdH st len x rd m) (hs : ∀ s ∈ rd, st' s = st s) : BdH st' len x rd m := by
 cases h with
 | no => exact .no
 | at_ h e => exact .at_ (h.agree hs) e
theorem BdL.eval (h : RepO f X st a w ρ L) {x : Option Operand} {rd : List Nat} {m : Nat} (hx : BdL st x rd m) : (x.map a.eval = none ∧ m = 0) ∨ ∃ k, x.map a.eval = some (.int k (m : Int)) := by
 cases hx with
 | no => exact .inl ⟨rfl, rfl⟩
 | at_ hl e => subst e; exact .inr ⟨_, by rw [Option.map_some, Lit.eval h hl]⟩
theorem BdH.eval (h : RepO f X st a w ρ L) {x : Option Operand} {len : Nat} {rd : List Nat} {m : Nat} (hx : BdH st len x rd m) : (x.map a.eval = none ∧ m = len) ∨ ∃ k, x.map a.eval = some (.int k (m : Int)) := by
 cases hx with
 | no => exact .inl ⟨rfl, rfl⟩
 | at_ hl e => subst e; exact .inr ⟨_, by rw [Option.map_some, Lit.eval h hl]⟩
theorem run_slice_cut {T : TypeId} {sz : Nat} [hT : SliceTy P T sz] (w : World) (b : Option Addr) (len cap l h : Nat) (lo hi : Option Value) (hlo : (lo = none ∧ l = 0) ∨ ∃ k, lo = some (.int k (l : Int))) (hhi : (hi = none ∧ h = len) ∨ ∃ k, hi = some (.int k (h : Int)))
  (h1 : l ≤ h) (h2 : h ≤ len) (h3 : len ≤ cap) : (Instr.sliceAt T (.slice b len cap) lo hi none).run P w = .ok (.slice (if cap = l then b else b.map (·.add (l * sz))) (h - l) (cap - l)) w := by
 obtain ⟨e, i, z, t1, t2, t3, _⟩ := hT.out
 have q1 : (l : Int) ≤ (h : Int) := by omega
 have q2 : (h : Int) ≤ (cap : Int) := by omega
 have q3 : (len : Int) ≤ (cap : Int) := by omega
 rcases hlo with ⟨rfl, rfl⟩ | ⟨k, rfl⟩ <;> rcases hhi with ⟨rfl, rfl⟩ | ⟨k', rfl⟩ <;>
  simp [Instr.sliceAt, Instr.slice, run_underlying t1, Instr.sliceBounds, Instr.sliceBound, asIntOf, sizeOf, typeInfo, t2, t3, *]
 all_goals omega
theorem map_cut {α : Type} (g : α → D) (A : List α) (l m : Nat) : (((A.map g).drop (l * 1)).take (m * 1)) = ((A.drop l).take m).map g := by
 rw [Nat.mul_one, Nat.mul_one, List.map_take, List.map_drop]
theorem step_slice_sh {α : Type} {g0 : α → D} {A : List α} {d t l h : Nat} {T : TypeId} {lo hi : Option Operand} {r1 r2 : List Nat} {ty pos aft g} [SliceTy P T 1] (ht : st t = .c (.sl false 1 (A.map g0))) (hlo : BdL st lo r1 l) (hhi : BdH st A.length hi r2 h) (h1 : l ≤ h) (h2 : h ≤ A.length) (hd : n d = true) :
  Step P n ⟨some d, .slice T (.tmp t) lo hi none, ty, pos, aft, g⟩ nid st (t :: (r1 ++ r2)) [(d, .c (.sl false 1 (((A.drop l).take (h - l)).map g0)))] := by
 intro X st' hs hX f a w hn hrep K Q hK
 obtain ⟨ρ, L, hr⟩ := hrep
 subst hn
 have hv := hr.slots t
 rw [(hs t (by simp)).trans ht] at hv
 simp only [SR, RD] at hv
 obtain ⟨_, r, _, us, hsh, h5⟩ := hv
 have hl := h5.length
 rw [List.length_map] at hl
 have hsh' := hsh
 obtain ⟨a0, n0, c0, e0, e1, e2, e3, _⟩ := hsh
 have en : n0 = A.length := by omega
 subst en
 have k1 := (hlo.agree fun s hs' => hs s (by simp [hs'])).eval hr
 have k2 := (hhi.agree fun s hs' => hs s (by simp [hs'])).eval hr
 refine wV_ (u := .slice (if c0 = l then a0 else a0.map (·.add (l * 1))) (h - l) (c0 - l)) (w' := w) ?_ (hr.done_light hK hd _ w (Keep.refl w) ?_ (by simp [AV.ids]))
 ·have e1 : a.eval (.tmp t) = _ := e0
  simp only [execOp, e1, Option.map_none, Sem.run_bind, run_slice_cut w a0 A.length c0 l h _ _ k1 k2 h1 h2 (by omega), Result.andThen_ok, Sem.run_pure]
 ·simp only [SR]
  obtain ⟨r', hr'⟩ := RDs.cut (l * 1) ((h - l) * 1) _ _ _ _ h5
  refine ⟨trivial, r', ?_⟩
  simp only [RD]
  refine ⟨trivial, _, hsh'.cut (lo := l) e0 (by omega) (by omega) (by omega) (fun hne => by rw [if_neg (by omega)]), ?_⟩
  rw [← map_cut]
  exact hr'
theorem sr_sub {F : Nat → Prop} {w : World} {ρ : Nat → Rho} {x id l h len : Nat} {path : List Nat} {v : Value} {us : List Value} {L0 : List Nat} (hrow : Row w v 1 us L0) (hv : ρ id path = v) (hl : us.length = len) (h1 : l ≤ h) (h2 : h ≤ len) :
  ∃ a0 c0, v = .slice a0 len c0 ∧ len ≤ c0 ∧ SR F w ρ (.sub x id path 1 l (h - l)) (.slice (if c0 = l then a0 else a0.map (·.add (l * 1))) (h - l) (c0 - l)) [] := by
 rcases hrow with ⟨rfl, rfl, rfl⟩ | ⟨g, o, n0, cap, cur, e, rfl, k2, k3, k4, k5, _⟩
 ·simp only [List.length_nil] at hl
  subst hl
  refine ⟨none, 0, rfl, Nat.le_refl _, ?_⟩
  simp only [SR]
  exact ⟨trivial, none, 0, 0, _, _, hv, rfl, by omega, by omega, by unfold maxLen; omega, fun hne => absurd (show h - l = 0 by omega) hne⟩
 ·have : n0 = len := by omega
  subst this
  refine ⟨_, cap, rfl, k4, ?_⟩
  simp only [SR]
  exact ⟨trivial, _, n0, cap, _, _, hv, rfl, by omega, by omega, by omega, fun hne => ⟨rfl, by rw [if_neg (by omega)]⟩⟩
theorem step_move_header {d t id : Nat} {cs : List D} {ty pos aft g} (ht : st t = .own id (.sl true 1 cs)) (hd : n d = true) :
  Step P n ⟨some d, .move (.tmp t), ty, pos, aft, g⟩ nid st [t] [(d, .sub t id [] 1 0 cs.length)] := by
 intro X st' hs hX f a w hn hrep K Q hK
 obtain ⟨ρ, L, hr⟩ := hrep
 subst hn
 have ht' := (hs t (by simp)).trans ht
 have hi' := hr.ids t
 rw [ht'] at hi'
 obtain ⟨us, L0, L1, q1, q2, q3⟩ := hr.partSl (path := []) ht' rfl
 have hl := q2.length
 have ev : tmp a t = ρ id [] := by
  have := hr.slots t
  rw [ht'] at this
  simp only [SR, RD] at this
  exact this.1
 obtain ⟨a0, c0, e0, e2, hsr⟩ := sr_sub (F := f.F) (ρ := ρ) (x := t) (id := id) (path := []) q1 rfl hl (Nat.zero_le _) (Nat.le_refl _)
 have e1 : Value.slice (if c0 = 0 then a0 else a0.map (·.add (0 * 1))) (cs.length - 0) (c0 - 0) = tmp a t := by
  rw [ev, e0]
  cases a0 with
  | none => simp
  | some b => simp [add_zero']
 rw [e1] at hsr
 exact wV_ (u := tmp a t) (w' := w) rfl (hr.done_light hK hd _ w (Keep.refl w) hsr (by simpa [AV.ids] using hi'))
theorem hdr_own {x : AV} {id sz : Nat} {cs : List D} (h : hdr x = hdr (.own id (.sl true sz cs))) : ∃ cs', x = .own id (.sl true sz cs') ∧ cs'.length = cs.length := by
 by_cases hx : ∃ id' sz' cs', x = .own id' (.sl true sz' cs')
 ·obtain ⟨id', sz', cs', rfl⟩ := hx
  simp only [hdr, AV.own.injEq, D.sl.injEq, true_and] at h
  obtain ⟨rfl, rfl, h⟩ := h
  exact ⟨cs', rfl, by simpa using congrArg List.length h⟩
 ·by_cases hp : ∃ i ds, x = .own i (.pt true ds)
  ·obtain ⟨i, ds, rfl⟩ := hp
   simp [hdr] at h
  ·have e : hdr x = x := by
    unfold hdr
    split
    ·exact absurd ⟨_, _, _, rfl⟩ hx
    ·exact absurd ⟨_, _, rfl⟩ hp
    ·rfl
   rw [e] at h
   exact absurd ⟨_, _, _, h⟩ hx
theorem hdr_set {x : AV} {id sz k : Nat} {cs : List D} {d : D} (h : x = .own id (.sl true sz cs)) : hdr (.own id (.sl true sz (cs.set k d))) = hdr x := by
 subst h; simp [hdr]
theorem stepW_move_header {d t id : Nat} {cs : List D} {ty pos aft g} (ht : st t = .own id (.sl true 1 cs)) (hd : n d = true) :
  StepW P n ⟨some d, .move (.tmp t), ty, pos, aft, g⟩ nid st [t] [] [(d, .sub t id [] 1 0 cs.length)] := by
 intro X st' _ hw hX
 obtain ⟨cs', h1, h2⟩ := hdr_own (by rw [hw t (by simp), ht])
 have := step_move_header (P := P) (n := n) (nid := nid) (st := st') (ty := ty) (pos := pos) (aft := aft) (g := g) h1 hd X st' (fun _ _ => rfl) hX
 rw [h2] at this
 exact this
theorem step_slice_als {α : Type} {g0 : α → D} {A : List α} {d t x id l h : Nat} {path : List Nat} {dd : D} {T : TypeId} {lo hi : Option Operand} {r1 r2 : List Nat} {ty pos aft g} [SliceTy P T 1] (ht : st t = .als x id path) (hx : st x = .own id dd) (hn' : dd.nav path = some (.sl true 1 (A.map g0)))
  (hlo : BdL st lo r1 l) (hhi : BdH st A.length hi r2 h) (h1 : l ≤ h) (h2 : h ≤ A.length) (hd : n d = true) :
  Step P n ⟨some d, .slice T (.tmp t) lo hi none, ty, pos, aft, g⟩ nid st (t :: x :: (r1 ++ r2)) [(d, .sub x id path 1 l (h - l))] := by
 intro X st' hs hX f a w hn hrep K Q hK
 obtain ⟨ρ, L, hr⟩ := hrep
 subst hn
 have ht' := (hs t (by simp)).trans ht
 have hx' := (hs x (by simp)).trans hx
 have hi' := hr.ids t
 rw [ht'] at hi'
 obtain ⟨us, L0, L1, q1, q2, q3⟩ := hr.partSl hx' hn'
 have hl := q2.length
 rw [List.length_map] at hl
 have ev : a.eval (.tmp t) = ρ id path := by
  have := hr.slots t
  rw [ht'] at this
  simp only [SR] at this
  exact this.2
 obtain ⟨a0, c0, e0, e2, hsr⟩ := sr_sub (F := f.F) (ρ := ρ) (x := x) (id := id) (path := path) q1 rfl hl h1 h2
 have k1 := (hlo.agree fun s hs' => hs s (by simp [hs'])).eval hr
 have k2 := (hhi.agree fun s hs' => hs s (by simp [hs'])).eval hr
 refine wV_ (u := .slice (if c0 = l then a0 else a0.map (·.add (l * 1))) (h - l) (c0 - l)) (w' := w) ?_ (hr.done_light hK hd _ w (Keep.refl w) hsr (by simpa [AV.ids] using hi'))
 simp only [execOp, ev, e0, Option.map_none, Sem.run_bind, run_slice_cut w a0 A.length c0 l h _ _ k1 k2 h1 h2 e2, Result.andThen_ok, Sem.run_pure]
theorem View.cut {α : Type} {g0 : α → D} {A : List α} {t x id lo m : Nat} {path : List Nat} {d : D} (h1 : st t = .sub x id path 1 lo m) (h2 : st x = .own id d) (h3 : d.nav path = some (.sl true 1 (A.map g0))) : View st (.tmp t) [t, x] 1 (((A.drop lo).take m).map g0) := by
 rw [← map_cut]
 exact View.sub h1 h2 h3
end
section
variable {P : Program} {n : NN} {nid : Nat} {st : Nat → AV} {f : Fr} {X : Nat → Prop} {a : Act} {w : World} {ρ : Nat → Rho} {L : Nat → List Nat} {M : List Nat}
def chop : List Nat → List D → List (List D)
 | [], _ => []
 | s :: szs, ds => ds.take s :: chop szs (ds.drop s)
def optsOf : Nat → Nat → List (Nat × Operand) → List (Option Operand)
 | 0, _, _ => []
 | k + 1, i, [] => none :: optsOf k (i + 1) []
 | k + 1, i, (j, x) :: l => if j == i then some x :: optsOf k (i + 1) l else none :: optsOf k (i + 1) ((j, x) :: l)
def partsOf {α : Type} : List (Option α) → Nat → List (Nat × α)
 | [], _ => []
 | some v :: os, i => (i, v) :: partsOf os (i + 1)
 | none :: os, i => partsOf os (i + 1)
def overlay : List (Option Value) → List Nat → List Value → List Value
 | some v :: os, s :: szs, r => v.cells.toList ++ overlay os szs (r.drop s)
 | none :: os, s :: szs, r => r.take s ++ overlay os szs (r.drop s)
 | _, _, r => r
theorem partsOf_map {α β : Type} (g : α → β) : ∀ (os : List (Option α)) (i : Nat), (partsOf os i).map (fun p => (p.1, g p.2)) = partsOf (os.map (Option.map g)) i
 | [], _ => rfl
 | some v :: os, i => by simp only [partsOf, List.map_cons, Option.map_some, partsOf_map g os (i + 1)]
 | none :: os, i => by simp only [partsOf, List.map_cons, Option.map_none, partsOf_map g os (i + 1)]
theorem fill_opt (place : Nat → Option (Nat × Nat)) : ∀ (os : List (Option Value)) (szs : List Nat) (i off : Nat) (init : Array Value), os.length = szs.length → (∀ j s, szs[j]? = some s → place (i + j) = some (off + (szs.take j).sum, s)) →
  (∀ (j : Nat) (v : Value) (s : Nat), os[j]? = some (some v) → szs[j]? = some s → v.cells.toList.length = s) → off + szs.sum ≤ init.size → Instr.fill place init (partsOf os i) = some (init.toList.take off ++ overlay os szs (init.toList.drop off)).toArray
 | [], [], i, off, init, _, _, _, _ => by simp [partsOf, overlay, Instr.fill]
 | [], _ :: _, _, _, _, h, _, _, _ => by simp at h
 | _ :: _, [], _, _, _, h, _, _, _ => by simp at h
 | none :: os, s :: szs, i, off, init, hl, hp, hc, hs => by
  simp only [List.sum_cons] at hs
  simp only [partsOf, overlay]
  rw [fill_opt place os szs (i + 1) (off + s) init (by simpa using hl) (fun j s' hj => by
   have := hp (j + 1) s' (by simpa using hj)
   rw [show i + 1 + j = i + (j + 1) by omega, this]
   simp only [List.take_succ_cons, List.sum_cons]
   congr 2
   omega) (fun j v s' h1 h2 => hc (j + 1) v s' (by simpa using h1) (by simpa using h2)) (by omega)]
  congr 2
  rw [List.take_add, List.append_assoc, List.drop_drop]
 | some v :: os, s :: szs, i, off, init, hl, hp, hc, hs => by
  have h0 := hp 0 s rfl
  have hv := hc 0 v s rfl rfl
  simp only [Nat.add_zero, List.take_zero, List.sum_nil] at h0
  simp only [List.sum_cons] at hs
  simp only [partsOf, overlay, Instr.fill, h0]
  have hsz : v.cells.size = v.cells.toList.length := by simp
  rw [if_neg (by rw [hsz, hv]; simp only [ne_eq, not_true_eq_false, decide_false, Bool.false_or, decide_eq_true_eq]; omega)]
  have hf : (v.cells.zipIdx.foldl (fun cs (x : Value × Nat) => cs.setIfInBounds (off + x.2) x.1) init) = (init.toList.take off ++ (v.cells.toList ++ init.toList.drop (off + v.cells.toList.length))).toArray := by
   rw [← Array.foldl_toList, Array.toList_zipIdx]
   have := foldl_cells off v.cells.toList 0 init (by omega)
   simpa using this
  rw [hf]
  generalize hcc : v.cells.toList = c at *
  subst hv
  have hX : (init.toList.take off).length = off := by rw [List.length_take, Array.length_toList]; omega
  generalize hI : init.toList.take off = X0 at *
  rw [List.drop_drop]
  generalize hY : init.toList.drop (off + c.length) = Y0 at *
  have hYl : Y0.length = init.size - (off + c.length) := by rw [← hY, List.length_drop, Array.length_toList]
  rw [fill_opt place os szs (i + 1) (off + c.length) _ (by simpa using hl) (fun j s' hj => by
   have := hp (j + 1) s' (by simpa using hj)
   rw [show i + 1 + j = i + (j + 1) by omega, this]
   simp only [List.take_succ_cons, List.sum_cons]
   congr 2
   omega) (fun j v s' h1 h2 => hc (j + 1) v s' (by simpa using h1) (by simpa using h2)) (by simp only [List.size_toArray, List.length_append, hX, hYl]; omega)]
  have e1 : (X0 ++ (c ++ Y0)).take (off + c.length) = X0 ++ c := by
   rw [← List.append_assoc]
   exact List.take_left' (by rw [List.length_append, hX])
  have e2 : (X0 ++ (c ++ Y0)).drop (off + c.length) = Y0 := by
   rw [← List.append_assoc]
   exact List.drop_left' (by rw [List.length_append, hX])
  simp only [e1, e2, List.append_assoc]
theorem ZeroDs.cut : ∀ {us : List Value} {ds : List D} (s : Nat), ZeroDs us ds → ZeroDs (us.take s) (ds.take s) ∧ ZeroDs (us.drop s) (ds.drop s)
 | _, _, 0, h => by simpa using ⟨ZeroDs.nil, h⟩
 | _, _, s + 1, .nil => ⟨.nil, .nil⟩
 | _, _, s + 1, .cons h1 h2 => ⟨.cons h1 (ZeroDs.cut s h2).1, (ZeroDs.cut s h2).2⟩
inductive GivesO : (Nat → AV) → List (Option Operand) → List (List D) → List Nat → List (List D) → List (Nat × AV) → Prop
 | nil {s0} : GivesO s0 [] [] [] [] []
 | given {s0 x xs z zs rd rds d ds up ups} : GiveV s0 x rd d up → d.length = z.length → GivesO (puts s0 up) xs zs rds ds ups → GivesO s0 (some x :: xs) (z :: zs) (rd ++ rds) (d :: ds) (up ++ ups)
 | zero {s0 xs z zs rds ds ups} : GivesO s0 xs zs rds ds ups → GivesO s0 (none :: xs) (z :: zs) rds (z :: ds) ups
theorem GivesO.agree : ∀ {st st' : Nat → AV} {xs : List (Option Operand)} {zs : List (List D)} {rd : List Nat} {ds : List (List D)} {up : List (Nat × AV)}, GivesO st xs zs rd ds up → (∀ s ∈ rd, st' s = st s) → GivesO st' xs zs rd ds up
 | _, _, _, _, _, _, _, .nil, _ => .nil
 | _, _, _, _, _, _, _, .given h1 h2 h3, hs => .given (h1.agree fun s hs' => hs s (by simp [hs'])) h2 (GivesO.agree h3 fun s hs' => puts_agree _ _ (hs s (by simp [hs'])))
 | _, _, _, _, _, _, _, .zero h, hs => .zero (GivesO.agree h hs)
theorem RepM.givesO : ∀ {st : Nat → AV} {L : Nat → List Nat} {M : List Nat}, RepM f X st a w ρ L M → ∀ {os : List (Option Operand)} {zs : List (List D)} {rd : List Nat} {dss : List (List D)} {up : List (Nat × AV)}, GivesO st os zs rd dss up → ∀ (k : Nat) (zc : List Value), ZeroDs zc zs.flatten →
  ∃ r L' M1, RepM f X (puts st up) a w ρ L' (M ++ M1) ∧ RDs f.F w dss.flatten k r (overlay (os.map (Option.map a.eval)) (zs.map List.length) zc) M1 ∧ (∀ (j : Nat) (v : Value) (s : Nat), (os.map (Option.map a.eval))[j]? = some (some v) → (zs.map List.length)[j]? = some s → v.cells.toList.length = s)
 | st, L, M, h, _, _, _, _, _, .nil, k, zc, hz => by
  simp only [List.flatten_nil] at hz
  cases hz
  exact ⟨fun _ => undef, L, [], by simpa [puts] using h, by simp [RDs, overlay], by simp⟩
 | st, L, M, h, _, _, _, _, _, .given (x := x) (xs := xs) (z := z) (zs := zs) (d := d) (ds := dss) h1 h2 h3, k, zc, hz => by
  obtain ⟨r1, L1, M1, us, hm1, hus, hr1⟩ := h.giveV h1
  have hz' := (hz.cut z.length).2
  simp only [List.flatten_cons, List.drop_left] at hz'
  obtain ⟨r2, L2, M2, hm2, hr2, hl2⟩ := RepM.givesO hm1 h3 (k + d.length) _ hz'
  have hlen := hr1.length
  refine ⟨(fun π => match π with | [] => undef | j :: q => if j < k + d.length then r1 ((j - k) :: q) else r2 (j :: q)), L2, M1 ++ M2, ?_, ?_, ?_⟩
  ·rw [puts_append, ← List.append_assoc]; exact hm2
  ·simp only [List.map_cons, List.flatten_cons, Option.map_some, overlay, hus]
   have e1 := RDs.unshift d 0 k r1 us M1 hr1
   rw [Nat.zero_add] at e1
   refine RDs.append d dss.flatten k _ us _ M1 M2 ?_ ?_
   ·exact rds_cong e1 fun j hj hjl => by
     funext π
     simp [Rho.at, show j < k + d.length from hjl]
   ·exact RDs.rho _ _ r2 _ _ _ hr2 fun j hj => by
     funext π
     simp [Rho.at, show ¬ j < k + d.length from by omega]
  ·intro j v s hj hs
   cases j with
   | zero =>
    simp only [List.map_cons, List.getElem?_cons_zero, Option.map_some, Option.some.injEq] at hj hs
    rw [← hj, hus, hlen, h2, hs]
   | succ j => exact hl2 j v s (by simpa using hj) (by simpa using hs)
 | st, L, M, h, _, _, _, _, _, .zero (xs := xs) (z := z) (zs := zs) (ds := dss) h3, k, zc, hz => by
  have hz1 := (hz.cut z.length).1
  have hz' := (hz.cut z.length).2
  simp only [List.flatten_cons, List.drop_left, List.take_left] at hz' hz1
  obtain ⟨r2, L2, M2, hm2, hr2, hl2⟩ := RepM.givesO h h3 (k + z.length) _ hz'
  obtain ⟨r1, hr1⟩ := ZeroDs.rds (F := f.F) (w := w) 0 hz1
  refine ⟨(fun π => match π with | [] => undef | j :: q => if j < k + z.length then r1 ((j - k) :: q) else r2 (j :: q)), L2, M2, hm2, ?_, ?_⟩
  ·simp only [List.map_cons, List.flatten_cons, Option.map_none, overlay]
   have e1 := RDs.unshift z 0 k r1 _ [] hr1
   rw [Nat.zero_add] at e1
   refine RDs.append z dss.flatten k _ _ _ [] M2 ?_ ?_
   ·exact rds_cong e1 fun j hj hjl => by
     funext π
     simp [Rho.at, show j < k + z.length from hjl]
   ·exact RDs.rho _ _ r2 _ _ _ hr2 fun j hj => by
     funext π
     simp [Rho.at, show ¬ j < k + z.length from by omega]
  ·intro j v s hj hs
   cases j with
   | zero => simp at hj
   | succ j => exact hl2 j v s (by simpa using hj) (by simpa using hs)
theorem GivesO.length : ∀ {st : Nat → AV} {xs : List (Option Operand)} {zs : List (List D)} {rd : List Nat} {ds : List (List D)} {up : List (Nat × AV)}, GivesO st xs zs rd ds up → xs.length = zs.length
 | _, _, _, _, _, _, .nil => rfl
 | _, _, _, _, _, _, .given _ _ h => by simp [GivesO.length h]
 | _, _, _, _, _, _, .zero h => by simp [GivesO.length h]
theorem chop_len : ∀ (szs : List Nat) (ds : List D), szs.sum = ds.length → (chop szs ds).map List.length = szs ∧ (chop szs ds).flatten = ds
 | [], ds, h => by
  have : ds = [] := List.eq_nil_of_length_eq_zero (by simpa using h.symm)
  subst this
  exact ⟨rfl, rfl⟩
 | s :: szs, ds, h => by
  simp only [List.sum_cons] at h
  have h1 := chop_len szs (ds.drop s) (by rw [List.length_drop]; omega)
  constructor
  ·simp only [chop, List.map_cons, h1.1, List.length_take]
   congr 1
   omega
  ·simp only [chop, List.flatten_cons, h1.2, List.take_append_drop]
theorem ZeroDs.len : ∀ {us : List Value} {ds : List D}, ZeroDs us ds → us.length = ds.length
 | _, _, .nil => rfl
 | _, _, .cons _ h => by simp [ZeroDs.len h]
theorem step_build_some {d : Nat} {T : TypeId} {szs : List Nat} {zs : List D} {ps : Array (Nat × Operand)} {rd : List Nat} {dss : List (List D)} {up : List (Nat × AV)} {ty pos aft g} [hT : BuildTy P T szs] [hZ : ZeroTy P T zs] (h : GivesO st (optsOf szs.length 0 ps.toList) (chop szs zs) rd dss up) (hp : partsOf (optsOf szs.length 0 ps.toList) 0 = ps.toList) (hd : n d = true) :
  Step P n ⟨some d, .build T ps, ty, pos, aft, g⟩ nid st rd (up ++ [(d, .agg (dss.flatten.map AV.raw))]) := by
 intro X st' hs hX f a w hn hrep K Q hK
 obtain ⟨ρ, L, hr⟩ := hrep
 subst hn
 obtain ⟨z, fs, h1, h2, h3, h4⟩ := hT.out
 obtain ⟨i', z', g1, g2, g3⟩ := hZ.out
 obtain ⟨i, hi, hz⟩ := Option.map_eq_some_iff.1 h1
 have e0 : i' = i := by rw [hi] at g1; exact (Option.some.inj g1).symm
 subst e0
 have e0 : z' = z := by rw [hz] at g2; exact (Option.some.inj g2).symm
 subst e0
 have hzl := g3.len
 have hsum : szs.sum = zs.length := by rw [← hzl, ← h4]; simp
 obtain ⟨c1, c2⟩ := chop_len szs zs hsum
 obtain ⟨r, L', M1, hm, hv, hlen⟩ := hr.toM.givesO (h.agree hs) 0 z'.cells.toList (by rw [c2]; exact g3)
 rw [puts_append] at hK
 rw [List.nil_append] at hm
 rw [c1] at hv hlen
 have hol : ((optsOf szs.length 0 ps.toList).map (Option.map a.eval)).length = szs.length := by
  rw [List.length_map, h.length]
  have := congrArg List.length c1
  simpa using this
 have hrun : (Instr.build T (ps.map fun (i, x) => (i, a.eval x))).run P w = .ok (.agg (overlay ((optsOf szs.length 0 ps.toList).map (Option.map a.eval)) szs z'.cells.toList).toArray) w := by
  refine run_build w T _ _ ?_
  unfold Program.built
  have hpp : (ps.map fun (i, x) => (i, a.eval x)).toList = partsOf ((optsOf szs.length 0 ps.toList).map (Option.map a.eval)) 0 := by
   rw [← partsOf_map, hp, Array.toList_map]
  simp only [hi, h2, hz, h3, hpp]
  have := fill_opt (fun k => (placesOf szs 0).toArray[k]?) ((optsOf szs.length 0 ps.toList).map (Option.map a.eval)) szs 0 0 z'.cells hol (fun j s hj => by
   have := placesOf_at szs 0 j _ hj
   rw [Nat.zero_add, List.getElem?_toArray, this]) hlen (by rw [h4]; omega)
  rw [this]
  simp
 refine wV_ (u := .agg (overlay ((optsOf szs.length 0 ps.toList).map (Option.map a.eval)) szs z'.cells.toList).toArray) (w' := w) ?_ (hm.put_raw (id := nid) (K := K) hK hd _ w [] (by simp) (Keep.refl w) M1 ?_ hm.nd (fun g hg => ⟨(hm.bound g hg).1, .inl hg⟩) ?_)
 ·simp only [execOp, Sem.run_bind]
  rw [hrun]
  rfl
 ·simp only [SR]
  exact ⟨_, rfl, SRs_raws _ 0 r _ _ hv⟩
 ·simp only [AV.ids, idss_raws]; simp
inductive IntsOf : List D → List Int → Prop
 | raw {l} : IntsOf (ints l) l
 | nil : IntsOf [] []
 | cons {x cs l} : IntsOf cs l → IntsOf (.lit (.int .i64 x) :: cs) (x :: l)
theorem IntsOf.eq : ∀ {cs : List D} {l : List Int}, IntsOf cs l → cs = ints l
 | _, _, .raw => rfl
 | _, _, .nil => rfl
 | _, _, .cons h => by rw [h.eq]; rfl
theorem step_append_ints_any {d : Nat} {T : TypeId} {s x : Operand} {rd rd2 : List Nat} {cs cs2 : List D} {l m : List Int} {up : List (Nat × AV)} {ty pos aft g} [hT : SliceTy P T 1] (h : Give st s rd (.sl true 1 cs) up) (hl : IntsOf cs l) (hv : View (puts st up) x rd2 1 cs2) (hm : IntsOf cs2 m) (hb : l.length + m.length ≤ 1099511627776) (hd : n d = true) :
  Step P n ⟨some d, .call ⟨.builtin .append, #[s, x], #[T, T]⟩, ty, pos, aft, g⟩ nid st (rd ++ rd2) (up ++ [(d, .own nid (.sl true 1 (ints (l ++ m))))]) := by
 rw [hl.eq] at h
 rw [hm.eq] at hv
 exact step_append_ints_view h hv hb hd
inductive LLOf : List D → List (List Int) → Prop
 | raw {Q : List (List Int)} : LLOf (LL Q) Q
 | nil : LLOf [] []
theorem LLOf.eq {cs : List D} {L : List (List Int)} (h : LLOf cs L) : cs = LL L := by cases h <;> rfl
theorem step_append_LL_any {d : Nat} {T : TypeId} {s x : Operand} {rd rd2 : List Nat} {hs cs : List D} {L0 : List (List Int)} {l : List Int} {up up2 : List (Nat × AV)} {ty pos aft g} [hT : SliceTy P T 1] (h : Give st s rd (.sl true 1 hs) up) (hl : LLOf hs L0) (hv : Give (puts st up) x rd2 (.sl true 1 [.sl true 1 cs]) up2) (hc : IntsOf cs l) (hb : L0.length ≤ 1099511627000) (hd : n d = true) :
  Step P n ⟨some d, .call ⟨.builtin .append, #[s, x], #[T, T]⟩, ty, pos, aft, g⟩ nid st (rd ++ rd2) ((up ++ up2) ++ [(d, .own nid (.sl true 1 (LL (L0 ++ [l]))))]) := by
 rw [hl.eq] at h
 rw [hc.eq] at hv
 exact step_append_LL1 h hv hb hd
end
end Go.Pv
namespace Go.Pv
open Go.RowKit
section
variable {P : Program} {n : NN} {nid : Nat} {st : Nat → AV} {f : Fr} {X : Nat → Prop} {a : Act} {w : World} {ρ : Nat → Rho} {L : Nat → List Nat} {M : List Nat}
inductive CapAV (st : Nat → AV) : Operand → List Nat → AV → Prop
 | root {t id cs} : st t = .own id (.pt true cs) → CapAV st (.tmp t) [t] (.ptr t id [] 0)
 | ptr {t x id p o} : st t = .ptr x id p o → CapAV st (.tmp t) [t] (.ptr x id p o)
 | sptr {t cs o} : st t = .sptr cs o → CapAV st (.tmp t) [t] (.sptr cs o)
theorem CapAV.agree {st' : Nat → AV} {x : Operand} {rd : List Nat} {av : AV} (h : CapAV st x rd av) (hs : ∀ s ∈ rd, st' s = st s) : CapAV st' x rd av := by
 cases h with
 | root h => exact .root ((hs _ (by simp)).trans h)
 | ptr h => exact .ptr ((hs _ (by simp)).trans h)
 | sptr h => exact .sptr ((hs _ (by simp)).trans h)
theorem CapAV.sr (h : RepO f X st a w ρ L) {x : Operand} {rd : List Nat} {av : AV} (hx : CapAV st x rd av) : SR f.F w ρ av (a.eval x) [] ∧ (∀ i ∈ av.ids, X i) ∧ ∃ b, a.eval x = .pointer (some b) := by
 cases hx with
 | @root t id cs ht =>
  have h1 := h.slots t
  have hi := h.ids t
  rw [ht] at h1 hi
  simp only [SR, RD] at h1
  obtain ⟨e, g, us, L1, ety, e2, _⟩ := h1
  have ev : a.eval (.tmp t) = .pointer (some ⟨g, 0, none⟩) := e2
  refine ⟨?_, by simpa [AV.ids] using hi, _, ev⟩
  simp only [SR]
  refine ⟨trivial, ⟨g, 0, none⟩, ?_, ?_⟩
  ·rw [← e, e2]; rfl
  ·rw [ev, add_zero']
 | @ptr t x id p o ht =>
  have h1 := h.slots t
  have hi := h.ids t
  rw [ht] at h1 hi
  simp only [SR] at h1
  obtain ⟨_, b, hb, e0⟩ := h1
  exact ⟨by simp only [SR]; exact ⟨trivial, b, hb, e0⟩, by simpa [AV.ids] using hi, _, e0⟩
 | @sptr t cs o ht =>
  have h1 := h.slots t
  rw [ht] at h1
  simp only [SR] at h1
  obtain ⟨_, b, us, r, e0, h2⟩ := h1
  exact ⟨by simp only [SR]; exact ⟨trivial, b, us, r, e0, h2⟩, by simp [AV.ids], _, e0⟩
theorem step_nilCheck {d : Nat} {x : Operand} {rd : List Nat} {av : AV} {ty pos aft g} (hx : CapAV st x rd av) (hd : n d = true) : Step P n ⟨some d, .nilCheck x, ty, pos, aft, g⟩ nid st rd [(d, av)] := by
 intro X st' hs hX f a w hn hrep K Q hK
 obtain ⟨ρ, L, hr⟩ := hrep
 subst hn
 obtain ⟨h1, h2, b, h3⟩ := (hx.agree hs).sr hr
 refine wV_ (u := a.eval x) (w' := w) ?_ (hr.done_light hK hd _ w (Keep.refl w) h1 h2)
 simp only [execOp, h3]
 rfl
end
end Go.Pv
namespace Go.Pv
section
variable {P : Program} {n : NN} {nid : Nat} {st : Nat → AV}
theorem step_min {d : Nat} {x y : Operand} {ts : Array TypeId} {a b : Int} {ty pos aft g} (hx : Lit st x (.int .i64 a)) (hy : Lit st y (.int .i64 b)) (hd : n d = true) :
  Step P n ⟨some d, .call ⟨.builtin .min, #[x, y], ts⟩, ty, pos, aft, g⟩ nid st (rdOf x ++ rdOf y) [(d, .c (.lit (.int .i64 (min a b))))] := by
 have := step_pure (P := P) (n := n) (nid := nid) (st := st) (o := ⟨some d, .call ⟨.builtin .min, #[x, y], ts⟩, ty, pos, aft, g⟩) (d := d) (u := .int .i64 (min a b)) [(x, .int .i64 a), (y, .int .i64 b)] rfl hd rfl (by simpa using ⟨hx, hy⟩) (fun ev w hev => by
  have e1 := hev (x, .int .i64 a) (by simp)
  have e2 := hev (y, .int .i64 b) (by simp)
  simp only at e1 e2
  have e3 : (if b < a then b else a) = min a b := by omega
  simp [execOp, resolve, invoke, builtin, e1, e2, Builtin.min_, Builtin.min2, e3])
 simpa using this
theorem step_max {d : Nat} {x y : Operand} {ts : Array TypeId} {a b : Int} {ty pos aft g} (hx : Lit st x (.int .i64 a)) (hy : Lit st y (.int .i64 b)) (hd : n d = true) :
  Step P n ⟨some d, .call ⟨.builtin .max, #[x, y], ts⟩, ty, pos, aft, g⟩ nid st (rdOf x ++ rdOf y) [(d, .c (.lit (.int .i64 (max a b))))] := by
 have := step_pure (P := P) (n := n) (nid := nid) (st := st) (o := ⟨some d, .call ⟨.builtin .max, #[x, y], ts⟩, ty, pos, aft, g⟩) (d := d) (u := .int .i64 (max a b)) [(x, .int .i64 a), (y, .int .i64 b)] rfl hd rfl (by simpa using ⟨hx, hy⟩) (fun ev w hev => by
  have e1 := hev (x, .int .i64 a) (by simp)
  have e2 := hev (y, .int .i64 b) (by simp)
  simp only at e1 e2
  have e3 : (if a < b then b else a) = max a b := by omega
  simp [execOp, resolve, invoke, builtin, e1, e2, Builtin.max_, Builtin.max2, e3])
 simpa using this
end
end Go.Pv
namespace Go.Pv
section
variable {P : Program} {n : NN} {nid : Nat} {st : Nat → AV}
theorem put_hole {A : List (List Int)} {k : Nat} (h : k < A.length) : (D.sl true 1 (LL A)).put [k] .hole = .sl true 1 ((LL A).set k .hole) := by
 simp only [D.put, D.kids, LL, LL_get h, D.withKids]
theorem give_row {t x id k : Nat} {A : List (List Int)} (h : st t = .als x id [k]) (hx : st x = .own id (.sl true 1 (LL A))) (hk : k < A.length) :
  Give st (.tmp t) [t, x] (.sl true 1 (ints (A.getD k []))) [(x, .own id (.sl true 1 ((LL A).set k .hole)))] := by
 have := Give.part (st := st) (t := t) (k := k) (path := []) h hx (nav_LL hk)
 rwa [put_hole hk] at this
theorem over_row {A : List (List Int)} {k : Nat} {m : List Int} (h : k < A.length) : D.over ((LL A).set k .hole) k [.sl true 1 (ints m)] = LL (A.set k m) := by
 simp only [D.over, List.set_set, LL, List.map_set]
theorem step_store_row {t tv x id idv k : Nat} {A : List (List Int)} {m : List Int} {T : TypeId} {ty pos aft g} [hT : SizeTy P T 1] (h : st t = .ptr x id [] k) (hx : st x = .own id (.sl true 1 ((LL A).set k .hole))) (hv : st tv = .own idv (.sl true 1 (ints m)))
  (h1 : (t == tv) = false) (h2 : (x == tv) = false) (hk : k < A.length) :
  Step P n ⟨none, .store T (.tmp t) (.tmp tv), ty, pos, aft, g⟩ nid st ([tv] ++ [t, x]) ([(tv, .dead)] ++ [(x, .own nid (.sl true 1 (LL (A.set k m))))]) := by
 have h1 : t ≠ tv := by simpa using h1
 have h2 : x ≠ tv := by simpa using h2
 have := step_store_give_ptr (P := P) (n := n) (nid := nid) (T := T) (ty := ty) (pos := pos) (aft := aft) (g := g) (.one (.own hv)) (t := t) (x := x) (id := id) (off := k) (path := []) (dd := .sl true 1 ((LL A).set k .hole)) (d1 := .sl true 1 ((LL A).set k .hole)) (cs := (LL A).set k .hole)
  (by simp only [puts]; rw [put_other _ _ _ _ h1]; exact h) (by simp only [puts]; rw [put_other _ _ _ _ h2]; exact hx) rfl rfl (m := 1) rfl (by simp [LL]; omega) (by simp)
 rw [over_row hk] at this
 exact this
theorem step_index_head0 {d t x id : Nat} {path : List Nat} {xi : Operand} {T : TypeId} {sz m nn : Nat} {k : IntKind} {j : Int} {ty pos aft g} [SliceTy P T sz] (h : st t = .sub x id path sz 0 nn)
  (hi : Lit st xi (.int k j)) (hj : j = (m : Int)) (hm : m < nn) (hd : n d = true) :
  Step P n ⟨some d, .indexAddr T (.tmp t) xi, ty, pos, aft, g⟩ nid st (t :: rdOf xi) [(d, .ptr x id path (m * sz))] := by
 have := step_index_header (P := P) (n := n) (nid := nid) (T := T) (sz := sz) (ty := ty) (pos := pos) (aft := aft) (g := g) h hi hj hm hd
 rwa [Nat.zero_add] at this
theorem stepW_move_headL {d t id : Nat} {A : List (List Int)} {ty pos aft g} (ht : st t = .own id (.sl true 1 (LL A))) (hd : n d = true) :
  StepW P n ⟨some d, .move (.tmp t), ty, pos, aft, g⟩ nid st [t] [] [(d, .sub t id [] 1 0 A.length)] := by
 have := stepW_move_header (P := P) (n := n) (nid := nid) (ty := ty) (pos := pos) (aft := aft) (g := g) ht hd
 rwa [show (LL A).length = A.length by simp [LL]] at this
end
end Go.Pv
namespace Go.Pv
open Go.RowKit
def CallNG (own : Bool) (P : Program) (K : FuncId) (d : D) (args : List Arg) (rs : List V) (d' : D) : Prop :=
 ∀ (w : World) (v : Value) (vs : List Value) (M0 M1 : List Nat) (F : Nat → Prop) (r : Rho), (∀ g, F g → g < w.heap.size ∧ g ∉ M0 ++ M1) → RD F w d r v M0 → ArgsR F w args vs M1 → (M0 ++ M1).Nodup → (∀ g ∈ M0 ++ M1, g < w.heap.size) →
  Calls P K (v :: vs).toArray w fun e w' => ∃ us Lr Lo, e = .returned (retVal us) ∧ Keep w (M0 ++ M1) w' ∧ VRs (Res own F) w' rs us Lr ∧ RD (Res own F) w' d' r v Lo ∧ (Lr ++ Lo).Nodup ∧
   ∀ g ∈ Lr ++ Lo, g < w'.heap.size ∧ (g ∈ M0 ++ M1 ∨ w.heap.size ≤ g)
def CallNS := CallNG false
section
variable {P : Program} {n : NN} {nid : Nat} {st : Nat → AV} {f : Fr} {X : Nat → Prop} {a : Act} {w : World} {ρ : Nat → Rho} {L : Nat → List Nat} {M : List Nat}
theorem RepM.lendN (h : RepM f X st a w ρ L M) {x : Operand} {xr id : Nat} {path rd : List Nat} {dd d : D} (hi : IoAt st x xr id path dd d rd) :
  ∃ L' M1, RepM f X (put st xr (.own id (dd.put path .hole))) a w ρ L' (M ++ M1) ∧ RD f.F w d ((ρ id).sub path) (a.eval x) M1 := by
 obtain ⟨hx, hn, _⟩ := hi.own
 have hids := h.rep.ids xr
 rw [hx] at hids
 obtain ⟨cs, hk⟩ := hi.kids
 obtain ⟨v1, A, L1, B, eL, h3, hset⟩ := h.rep.part hx hn
 have hv1 : v1 = (ρ id).sub path [] := named hk h3
 have hev : a.eval x = v1 := by rw [hv1, Rho.sub_nil]; exact hi.eval h.rep
 have hfin := hset w .hole ((ρ id).sub path) [] (fun _ _ => rfl) (fun _ _ => rfl) (by simp only [RD]; exact ⟨hv1, h3.one, trivial⟩)
 rw [Rho.set_sub] at hfin
 have hnd := h.rep.nodup xr
 rw [eL] at hnd
 simp only [List.nodup_append, List.mem_append] at hnd
 rw [hev]
 refine ⟨_, L1, h.detach xr (.own id (dd.put path .hole)) (A ++ ([] ++ B)) L1 (by simp only [SR]; exact hfin) (by simpa [AV.ids] using hids) (fun g hg => ?_) ?_ hnd.2.1.1 (fun g hg hg' => ?_), h3⟩
 ·rw [eL]; simp only [List.nil_append, List.mem_append] at hg ⊢; grind
 ·simp only [List.nil_append, List.nodup_append]; grind
 ·simp only [List.nil_append, List.mem_append] at hg; grind
def DoneN (P : Program) (fn : Func) (d : D) (args : List Arg) (rs : List V) (d' : D) (e : Exit) (s : Nat → AV) (_ : Nat) : Prop :=
 (e = .normal ∨ e = .ret) ∧ ∃ s', Ress P s fn.results.toList rs s' ∧ s' 0 = .own 0 d'
theorem DoneN.ret {fn : Func} {d : D} {args : List Arg} {rs rs' : List V} {d' d1 : D} {s s' : Nat → AV} {k : Nat} (hr : Ress P s fn.results.toList rs' s') (ho : s' 0 = .own 0 d1) (h : rs' = rs) (h' : d1 = d') : DoneN P fn d args rs d' .ret s k := by
 subst h h'; exact ⟨.inr rfl, s', hr, ho⟩
theorem DoneN.normal {fn : Func} {d : D} {args : List Arg} {rs rs' : List V} {d' d1 : D} {s s' : Nat → AV} {k : Nat} (hr : Ress P s fn.results.toList rs' s') (ho : s' 0 = .own 0 d1) (h : rs' = rs) (h' : d1 = d') : DoneN P fn d args rs d' .normal s k := by
 subst h h'; exact ⟨.inl rfl, s', hr, ho⟩
theorem callNG_of {own : Bool} {S0 : List (Value × List Int)} (hS0 : (S0 = [] ∧ own = true) ∨ S0 = mark0) {K : FuncId} {fn : Func} {c : Code} {d : D} {args : List Arg} {rs : List V} {d' : D} (m : Nat) (hf : P.funcs[K]? = some fn) (hb : fn.body = some c) (hm : fn.ntmps = m) (hs : own = true → rs.all V.solid = true ∧ d'.solid = true)
  (h : WpA P ⟨fun t => decide (t < m) && !([0].contains t), [], [], S0⟩ c (initSt (.io d :: args)) (args.length + 1) (DoneN P fn d args rs d')) : CallNG own P K d args rs d' := by
 intro w v vs M0 M1 F r hF hv hargs hnd hM
 obtain ⟨Ls', e1', e2', eM', e4'⟩ := hargs.split
 have hargs0 : ArgsR F w (.io d :: args) (v :: vs) (M0 ++ M1) := by
  simp only [ArgsR]; exact ⟨v, vs, M0, M1, rfl, rfl, ⟨r, hv⟩, hargs⟩
 generalize hM2 : M0 ++ M1 = M at *
 have eM : M = (M0 :: Ls').flatten := by rw [← hM2, eM']; simp
 refine calls_of_wp hf hb ?_
 have htmp : ∀ t, tmp { tmps := (v :: vs).toArray ++ Array.replicate (fn.ntmps - (v :: vs).toArray.size) undef, defers := [] } t = (v :: vs).getD t undef := by
  intro t
  generalize v :: vs = vs
  unfold tmp
  simp only [Array.getD_eq_getD_getElem?, List.getD_eq_getElem?_getD, Array.getElem?_append, List.size_toArray, List.getElem?_toArray, Array.getElem?_replicate]
  by_cases ht : t < vs.length
  ·simp [ht]
  ·simp only [ht, if_false]
   rw [List.getElem?_eq_none (by omega)]
   split <;> rfl
 let n : NN := ⟨fun t => decide (t < m) && !([0].contains t), [], [], S0⟩
 have hn0 : ∀ t, n t = true → t < fn.ntmps := fun t ht => by
  rw [hm]; simp only [n, Bool.and_eq_true, decide_eq_true_eq] at ht; exact ht.1
 have hSS : ∀ q ∈ S0, ShRow F w q.1 1 (q.2.map (.int .i64)) := fun q hq => by
  rcases hS0 with h | h
  ·rw [h.1] at hq; exact (List.not_mem_nil hq).elim
  ·rw [h, mark0, List.mem_singleton] at hq
   subst hq
   exact ⟨none, 0, 0, rfl, rfl, Nat.le_refl _, Nat.zero_le _, fun h => absurd rfl h⟩
 let f : Fr := { w0 := w, M := M, N := n, H := [(0, v)], F := F, hF := hF, R := [(0, r)], hK := fun _ h => (List.not_mem_nil h).elim, hR := fun _ h => (List.not_mem_nil h).elim, hS := hSS }
 let Ls := M0 :: Ls'
 have hL : ∀ t, (Ls.getD t []).Nodup ∧ ∀ g ∈ Ls.getD t [], g ∈ M := by
  intro t
  rw [List.getD_eq_getElem?_getD]
  cases ht : Ls[t]? with
  | none => simp
  | some Lt =>
   have hmm := List.mem_of_getElem? ht
   rw [eM] at hnd ⊢
   unfold List.Nodup at hnd
   rw [List.pairwise_flatten] at hnd
   exact ⟨hnd.1 Lt hmm, fun g hg => List.mem_flatten.2 ⟨Lt, hmm, hg⟩⟩
 have hch : ∀ t, ∃ r1 : Rho, (t = 0 → r1 = r) ∧ ∀ ρ : Nat → Rho, ρ t = r1 → SR F w ρ (initSt (.io d :: args) t) ((v :: vs).getD t undef) (Ls.getD t []) := by
  intro t
  cases t with
  | zero => exact ⟨r, fun _ => rfl, fun ρ e => by simp only [initSt, Arg.av, SR, List.getElem?_cons_zero]; rw [e]; exact hv⟩
  | succ t =>
   unfold initSt
   rw [List.getElem?_cons_succ]
   cases ht : args[t]? with
   | none =>
    have hlt : args.length ≤ t := by simpa using ht
    refine ⟨fun _ => undef, by simp, fun ρ _ => ?_⟩
    rw [List.getD_eq_getElem?_getD (l := Ls), List.getElem?_eq_none (by simp only [Ls, List.length_cons]; omega)]
    simp only [SR, Option.getD_none]
   | some x =>
    have hlt : t < args.length := (List.getElem?_eq_some_iff.1 ht).1
    have hu : vs[t]? = some (vs[t]'(by omega)) := List.getElem?_eq_getElem _
    have hl : Ls'[t]? = some (Ls'[t]'(by omega)) := List.getElem?_eq_getElem _
    obtain ⟨r1, hr1⟩ := (e4' t x _ _ ht hu hl).sr (t + 1)
    refine ⟨r1, by simp, fun ρ e => ?_⟩
    have := hr1 ρ e
    rw [List.getD_eq_getElem?_getD, List.getD_eq_getElem?_getD, List.getElem?_cons_succ, hu]
    simp only [Ls, List.getElem?_cons_succ, hl]
    exact this
 obtain ⟨ρ, hρ⟩ := Classical.axiomOfChoice hch
 have hrep : Rep f (fun i => i < args.length + 1) (initSt (.io d :: args)) { tmps := (v :: vs).toArray ++ Array.replicate (fn.ntmps - (v :: vs).toArray.size) undef, defers := [] } w := by
  refine ⟨ρ, fun t => Ls.getD t [], rfl, fun d hd => ?_, fun q hq => ?_, ⟨rfl, rfl, rfl, Nat.le_refl _, fun _ _ _ => rfl, Nat.le_refl _⟩, fun t => ?_, fun t => (hL t).1, fun t u htu g hg hgu => ?_, fun t g hg => ?_, fun t i hi => ?_, fun t g hg => .inl ((hL t).2 g hg), fun q hq => ?_⟩
  ·have := hn0 d hd
   simp
   omega
  ·have : q = (0, v) := by simpa [f] using hq
   subst this
   exact ⟨by simp [f, n], by rw [htmp 0]; rfl⟩
  ·rw [htmp t]; exact (hρ t).2 ρ rfl
  ·have hnd2 := hnd
   unfold List.Nodup at hnd2
   rw [eM, List.pairwise_flatten] at hnd2
   rw [List.getD_eq_getElem?_getD] at hg hgu
   cases ht : Ls[t]? with
   | none => simp [ht] at hg
   | some Lt =>
    cases hu : Ls[u]? with
    | none => simp [hu] at hgu
    | some Lu =>
     simp only [ht, hu, Option.getD_some] at hg hgu
     obtain ⟨h1, h2⟩ := List.getElem?_eq_some_iff.1 ht
     obtain ⟨h3, h4⟩ := List.getElem?_eq_some_iff.1 hu
     rcases Nat.lt_or_ge t u with hlt | hge
     ·have := List.pairwise_iff_getElem.1 hnd2.2 t u h1 h3 hlt
      rw [h2, h4] at this
      exact this g hg g hgu rfl
     ·have := List.pairwise_iff_getElem.1 hnd2.2 u t h3 h1 (by omega)
      rw [h2, h4] at this
      exact this g hgu g hg rfl
  ·have hm := (hL t).2 g hg
   exact ⟨hM g hm, fun hf => (hF g hf).2 hm⟩
  ·unfold initSt at hi
   cases ht : (Arg.io d :: args)[t]? with
   | none => simp [ht, AV.ids] at hi
   | some x =>
    simp only [ht] at hi
    rw [Arg.av_ids x t i hi]
    have := (List.getElem?_eq_some_iff.1 ht).1
    simpa using this
  ·have : q = (0, r) := by simpa [f] using hq
   subst this
   exact ⟨by show 0 < args.length + 1; omega, (hρ 0).1 rfl⟩
 refine Code.wp_mono (fun e a' w' hq => ?_) (h f _ w rfl (.of hrep))
 obtain ⟨s1, nx', ⟨he, s', hres, h0⟩, ⟨f', kf, ρ', L', hr⟩⟩ := hq
 have hmine : ∀ g, (g ∈ f'.M ∨ f'.w0.heap.size ≤ g) → g ∈ M ∨ w.heap.size ≤ g := fun g hg => by
  rcases hg with h1 | h1
  ·exact kf.M g h1
  ·exact .inr (Nat.le_trans kf.keep.size h1)
 have hF' : own = false → f'.F = F := fun ho => by
  rcases hS0 with h | h
  ·rw [h.2] at ho; cases ho
  ·have : f' = f := kf.still (by show S0 ≠ []; rw [h]; simp [mark0])
   rw [this]
 have fin : bodyPost P fn (fun e w' => ∃ us Lr Lo, e = .returned (retVal us) ∧ Keep w M w' ∧ VRs (Res own F) w' rs us Lr ∧ RD (Res own F) w' d' r v Lo ∧ (Lr ++ Lo).Nodup ∧ ∀ g ∈ Lr ++ Lo, g < w'.heap.size ∧ (g ∈ M ∨ w.heap.size ≤ g)) .ret a' w' := by
  obtain ⟨L2, M2, us, hm, hrun, hv2⟩ := hr.toM.ress hres
  rw [List.nil_append] at hm
  have hsl := hm.rep.slots 0
  rw [h0] at hsl
  simp only [SR] at hsl
  have hv0 : tmp a' 0 = v := (hr.hold (0, v) (by rw [kf.H]; simp [f])).2
  have hr0 : ρ' 0 = r := (hr.names (0, r) (by rw [kf.R]; simp [f])).2
  rw [hv0, hr0] at hsl
  refine ⟨hr.defers, retVal us, run_results hrun, us, M2, L2 0, rfl, kf.keep.trans hr.keep (fun g hg hlt => by
   rcases hmine g (.inl hg) with h1 | h1
   ·exact h1
   ·have : f.w0 = w := rfl
    rw [this] at hlt
    omega), ?_, ?_, ?_, ?_⟩
  ·cases hown : own with
   | true => exact hv2.solid (hs hown).1
   | false => exact hv2.same (fun g hg => ⟨rfl, by rw [← hF' hown]; exact hg⟩) (fun _ _ => rfl) (fun _ _ => rfl)
  ·cases hown : own with
   | true => exact RD.solid d' r v _ hsl (hs hown).2
   | false => exact RD.same (fun g hg => ⟨rfl, by rw [← hF' hown]; exact hg⟩) (fun _ _ => rfl) d' r v _ hsl (fun _ _ => rfl)
  ·rw [List.nodup_append]
   exact ⟨hm.nd, hm.rep.nodup 0, fun g hg g' hg' e => by subst e; exact hm.disj 0 g hg' hg⟩
  ·intro g hg
   rw [List.mem_append] at hg
   rcases hg with hg | hg
   ·exact ⟨(hm.bound g hg).1, hmine g (hm.mine g hg)⟩
   ·exact ⟨(hm.rep.bound 0 g hg).1, hmine g (hm.rep.mine 0 g hg)⟩
 rcases he with rfl | rfl
 ·exact fin
 ·exact fin
theorem cN_ {K : FuncId} {fn : Func} {c : Code} {d : D} {args : List Arg} {rs : List V} {d' : D} (m : Nat) (hf : P.funcs[K]? = some fn) (hb : fn.body = some c) (hm : fn.ntmps = m)
  (h : WpA P ⟨fun t => decide (t < m) && !([0].contains t), [], [], mark0⟩ c (initSt (.io d :: args)) (args.length + 1) (DoneN P fn d args rs d')) : CallNS P K d args rs d' :=
 callNG_of (.inr rfl) m hf hb hm (fun h => by cases h) h
end
end Go.Pv
namespace Go.Pv
open Go.RowKit
abbrev bools (l : List Bool) : List D := l.map fun b => D.lit (.bool b)
theorem bools_get {l : List Bool} {i : Nat} (h : i < l.length) : (l.map fun b => D.lit (.bool b))[i]? = some (.lit (.bool (l.getD i false))) := map_get false h
theorem solids_bools (l : List Bool) : D.solids (bools l) = true := by
 unfold bools
 induction l with
 | nil => rfl
 | cons a l ih => simp only [List.map_cons, D.solids, D.solid, ih, Bool.and_self]
section
variable {P : Program} {n : NN} {nid : Nat} {st : Nat → AV} {f : Fr} {X : Nat → Prop} {a : Act} {w : World} {ρ : Nat → Rho} {L : Nat → List Nat} {M : List Nat}
inductive AllC : List AV → List D → Prop
 | nil : AllC [] []
 | cons {d l ds} : AllC l ds → AllC (.c d :: l) (d :: ds)
inductive ShowsF (st : Nat → AV) : Operand → List Nat → V → Prop
 | lit {x v} : Lit st x v → v.oneCell' = true → ShowsF st x (rdOf x) (.one (.lit v))
 | c {t d} : st t = .c d → ShowsF st (.tmp t) [t] (.one d)
 | agg {t l ds} : st t = .agg l → AllC l ds → ShowsF st (.tmp t) [t] (.agg ds)
inductive ReadsF (st : Nat → AV) : List Operand → List Arg → List Nat → Prop
 | nil : ReadsF st [] [] []
 | sh {x xs v args rd rds} : ShowsF st x rd v → ReadsF st xs args rds → ReadsF st (x :: xs) (.sh v :: args) (rd ++ rds)
 | mv {x xs v args rds} : ReadsF st xs args rds → ReadsF st (x :: xs) (.mv v :: args) rds
theorem ShowsF.agree {st st' : Nat → AV} {x : Operand} {rd : List Nat} {v : V} (h : ShowsF st x rd v) (hs : ∀ s ∈ rd, st' s = st s) : ShowsF st' x rd v := by
 cases h with
 | lit h h1 => exact .lit (h.agree hs) h1
 | c h => exact .c ((hs _ (by simp)).trans h)
 | agg h h1 => exact .agg ((hs _ (by simp)).trans h) h1
theorem ReadsF.agree {st st' : Nat → AV} : ∀ {xs : List Operand} {args : List Arg} {rd : List Nat}, ReadsF st xs args rd → (∀ s ∈ rd, st' s = st s) → ReadsF st' xs args rd
 | _, _, _, .nil, _ => .nil
 | _, _, _, .sh h1 h2, hs => .sh (h1.agree fun s hs' => hs s (by simp [hs'])) (ReadsF.agree h2 fun s hs' => hs s (by simp [hs']))
 | _, _, _, .mv h, hs => .mv (ReadsF.agree h hs)
theorem AllC.rds {F : Nat → Prop} {w : World} {ρ : Nat → Rho} : ∀ {l : List AV} {ds : List D} {vs : List Value} {L0 : List Nat} (k : Nat), AllC l ds → SRs F w ρ l vs L0 → ∃ r, RDs F w ds k r vs []
 | _, _, _, _, k, .nil, hx => by simp only [SRs] at hx; exact ⟨fun _ => undef, by simp only [RDs]; exact ⟨hx.1, trivial⟩⟩
 | _, _, _, _, k, .cons (d := d) (ds := ds) h, hx => by
  simp only [SRs] at hx
  obtain ⟨v, vs', L1, L2, rfl, rfl, h3, h4⟩ := hx
  simp only [SR] at h3
  obtain ⟨_, r1, e1⟩ := h3
  obtain ⟨r2, e2⟩ := AllC.rds (k + 1) h h4
  refine ⟨fun π => match π with | [] => undef | j :: q => if j = k then r1 q else r2 (j :: q), ?_⟩
  simp only [RDs]
  refine ⟨v, vs', [], [], rfl, rfl, RD.rho d r1 _ v [] e1 (fun π => by simp [Rho.at]), RDs.rho ds (k + 1) r2 _ vs' [] e2 (fun j hj => ?_)⟩
  funext π
  simp [Rho.at, show j ≠ k from by omega]
theorem ShowsF.rd (h : RepM f X st a w ρ L M) {x : Operand} {rd : List Nat} {v : V} (hv : ShowsF st x rd v) : VR f.F w v (a.eval x) [] := by
 cases hv with
 | @lit x v hl h1 =>
  rw [Lit.eval h.rep hl]
  exact ⟨fun _ => undef, by simp only [RD]; exact ⟨trivial, h1, trivial⟩⟩
 | @c t d ht =>
  have := h.rep.slots t
  rw [ht] at this
  simp only [SR] at this
  exact this.2
 | @agg t l ds ht hl =>
  have := h.rep.slots t
  rw [ht] at this
  simp only [SR] at this
  obtain ⟨vs, e, hs⟩ := this
  obtain ⟨r, hr⟩ := hl.rds 0 hs
  exact ⟨r, vs, e, hr⟩
theorem args_ofF (h : RepM f X st a w ρ L M) : ∀ {xs : List Operand} {args : List Arg} {M1 : List Nat}, MovedR f.F w a.eval xs args M1 → ∀ {rd : List Nat}, ReadsF st xs args rd → ArgsR f.F w args (xs.map a.eval) M1
 | _, _, _, .nil, _, .nil => by simp [ArgsR]
 | _, _, _, .sh h1, _, .sh h2 h3 => by
  simp only [ArgsR, List.map_cons]
  exact ⟨_, _, [], _, rfl, rfl, ⟨rfl, h2.rd h⟩, args_ofF h h1 h3⟩
 | _, _, _, .mv h1 h2, _, .mv h3 => by
  simp only [ArgsR, List.map_cons]
  exact ⟨_, _, _, _, rfl, rfl, h1, args_ofF h h2 h3⟩
theorem step_callS {d : Nat} {K : FuncId} {xs : Array Operand} {ts : Array TypeId} {args : List Arg} {rs : List V} {rd rd2 : List Nat} {up : List (Nat × AV)} {ty pos aft g} [FnOk P K] (hc : CallS P K args rs []) (hm : Moves st xs.toList args rd up) (hr : ReadsF (puts st up) xs.toList args rd2) (hd : n d = true) :
  Step P n ⟨some d, .call ⟨.value (.func K), xs, ts⟩, ty, pos, aft, g⟩ nid st (rd ++ rd2) (up ++ [(d, resAV nid rs)]) := by
 intro X st' hs hX f a w hn hrep Kk Q hK
 obtain ⟨ρ, L, h⟩ := hrep
 subst hn
 have hm' := hm.agree (st' := st') fun s hs' => hs s (List.mem_append_left _ hs')
 obtain ⟨L', M1, h1, h2⟩ := h.toM.moves hm'
 rw [puts_append] at hK
 rw [List.nil_append] at h1
 have h3 := args_ofF h1 h2 (hr.agree (st' := puts st' up) fun s hs' => puts_agree _ _ (hs s (List.mem_append_right _ hs')))
 refine wp_of_enter (run_call a.eval rfl w) ?_
 have e : xs.map a.eval = (xs.toList.map a.eval).toArray := by apply Array.ext'; rw [Array.toList_map]
 rw [e]
 refine (hc w _ M1 f.F (fun g hg => ⟨h1.rep.F_lt hg, fun hm => (h1.bound g hm).2 hg⟩) h3 h1.nd (fun g hg => (h1.bound g hg).1)).mono ?_
 rintro e w' ⟨us, Lr, Lo, rfl, hk, hv, ho, hnd, hL⟩
 have hLo : Lo = [] := outs_nil h2 _ _ ho
 subst hLo
 rw [List.append_nil] at hnd hL
 exact ⟨_, rfl, h1.put_res hK hd hX us w' hk Lr (hv.same (fun g (hg : Res false f.F g) => hg.2) (fun _ _ => rfl) (fun _ _ => rfl)) hnd hL⟩
theorem step_call_ioS {d0 : Nat} {K : FuncId} {x : Operand} {xs : List Operand} {ts : Array TypeId} {args : List Arg} {rs : List Value} {d d' dd : D} {xr id : Nat} {path rd rd1 rd2 : List Nat} {up : List (Nat × AV)} {ty pos aft g} [FnOk P K]
  (hc : CallNS P K d args (rs.map fun v => .one (.lit v)) d') (hi : IoAt st x xr id path dd d rd) (hm : Moves (put st xr (.own id (dd.put path .hole))) xs args rd1 up) (hr : ReadsF (puts (put st xr (.own id (dd.put path .hole))) up) xs args rd2)
  (hx : puts (put st xr (.own id (dd.put path .hole))) up xr = .own id (dd.put path .hole)) (hne : (d0 == xr) = false) (hd : n d0 = true) :
  Step P n ⟨some d0, .call ⟨.value (.func K), (x :: xs).toArray, ts⟩, ty, pos, aft, g⟩ nid st (rd ++ (rd1 ++ rd2)) ((xr, .own id (dd.put path .hole)) :: (up ++ [(d0, litAV rs), (xr, .own id (dd.put path d'))])) := by
 intro X st' hs hX f a w hn hrep Kk Q hK
 obtain ⟨ρ, L, h⟩ := hrep
 subst hn
 have hne : d0 ≠ xr := by simpa using hne
 have hi' := hi.agree (st' := st') fun s hs' => hs s (List.mem_append_left _ hs')
 have ag : ∀ s, st' s = st s → put st' xr (.own id (dd.put path .hole)) s = put st xr (.own id (dd.put path .hole)) s := fun s e => by unfold put; split <;> simp_all
 have hm' := hm.agree (st' := put st' xr (.own id (dd.put path .hole))) fun s hs' => ag s (hs s (by simp [hs']))
 have hidX : X id := by
  have := h.ids xr
  rw [hi'.own.1] at this
  exact this id (by simp [AV.ids])
 obtain ⟨L0, M0, h0, hv0⟩ := h.toM.lendN hi'
 obtain ⟨L', M1, h1, h2⟩ := h0.moves hm'
 simp only [puts] at hK
 rw [puts_append] at hK
 rw [List.nil_append] at h1
 have hr' := hr.agree (st' := puts (put st' xr (.own id (dd.put path .hole))) up) fun s hs' => puts_agree _ _ (ag s (hs s (by simp [hs'])))
 have h3 := args_ofF h1 h2 hr'
 have hx' : puts (put st' xr (.own id (dd.put path .hole))) up xr = .own id (dd.put path .hole) := by
  exact (puts_agree up xr (by simp [put])).trans hx
 refine wp_of_enter (run_call a.eval rfl w) ?_
 have e : (x :: xs).toArray.map a.eval = (a.eval x :: xs.map a.eval).toArray := by simp
 rw [e]
 refine (hc w _ _ M0 M1 f.F ((ρ id).sub path) (fun g hg => ⟨h1.rep.F_lt hg, fun hm => (h1.bound g hm).2 hg⟩) hv0 h3 h1.nd (fun g hg => (h1.bound g hg).1)).mono ?_
 rintro e w' ⟨us, Lr, Lo, rfl, hk, hv, hout, hnd, hL⟩
 obtain ⟨rfl, rfl, hone⟩ := lits_res rs us Lr hv
 rw [List.nil_append] at hnd hL
 refine ⟨_, rfl, ?_⟩
 have hxs := h1.rep.slots xr
 rw [hx'] at hxs
 simp only [SR] at hxs
 have hnav := nav_put path dd d .hole hi.own.2.1
 obtain ⟨v1, A, L1, B, eL, h5, hset⟩ := RD.focus path _ _ _ _ hxs .hole hnav
 simp only [RD] at h5
 obtain ⟨hv1, _, rfl⟩ := h5
 have hev : a.eval x = v1 := by rw [hv1, Rho.sub_nil]; exact hi'.eval h
 rw [hev] at hout
 have hFs : ∀ g, f.F g → Same w w' g := fun g hg => hk.block g (h1.rep.F_lt hg) (fun hm => (h1.bound g hm).2 hg)
 have hLx : ∀ t, ∀ g ∈ L' t, Same w w' g := fun t g hg => hk.block g (h1.rep.bound t g hg).1 (h1.disj t g hg)
 have hfin := hset w' d' ((ρ id).sub path) Lo hFs (fun g hg => hLx xr g (by rw [eL]; rcases hg with hg | hg <;> simp [hg])) (RD.same (fun g (hg : Res false f.F g) => hg.2) (fun _ _ => rfl) d' _ _ Lo hout (fun _ _ => rfl))
 rw [put_put path dd d .hole d' hi.own.2.1, Rho.set_sub] at hfin
 refine hK _ _ ⟨ρ, fun s => if s = xr then A ++ (Lo ++ B) else if s = d0 then [] else L' s, ?_⟩
 have hL0 : ∀ g ∈ Lo, g ∉ L' xr := fun g hg hg' => by
  rcases (hL g hg).2 with h | h
  ·exact h1.disj xr g hg' h
  ·have := (h1.rep.bound xr g hg').1; omega
 have hndx := h1.rep.nodup xr
 rw [eL] at hndx
 have hst : ∀ s, s ≠ xr → s ≠ d0 → puts (puts (put st' xr (.own id (dd.put path .hole))) up) [(d0, litAV us), (xr, .own id (dd.put path d'))] s = puts (put st' xr (.own id (dd.put path .hole))) up s := fun s h1 h2 => by
  simp only [puts]; rw [put_other _ _ _ _ h1, put_other _ _ _ _ h2]
 refine h1.step (fun s => s = xr ∨ s = d0) (M0 ++ M1) _ _ _ w' _ _ (put_defers _ _ _) (put_size _ _ _) (hold_put _ hd) hk (fun g hg => .inr hg) (fun i hi => rfl) (fun s hs' => ?_) (fun s hs' => ?_) (fun s u hs' hu hsu g hg hgu => ?_) (fun _ h => .inl h) (fun s hs' i hi => ?_)
 ·simp only [not_or] at hs'
  exact ⟨hst s hs'.1 hs'.2, tmp_put_other _ _ _ _ hs'.2, by simp [hs'.1, hs'.2]⟩
 ·by_cases hsx : s = xr
  ·subst hsx
   rw [if_pos rfl, tmp_put_other _ _ _ _ (Ne.symm hne)]
   simp only [puts, put_same, SR]
   refine ⟨hfin, ?_, fun g hg => ?_⟩
   ·have hd2 : ∀ g ∈ Lo, g ∉ A ∧ g ∉ B := fun g hg => by
     have := hL0 g hg
     rw [eL] at this
     simp only [List.mem_append, not_or] at this
     exact ⟨this.1, this.2.2⟩
    simp only [List.nodup_append, List.mem_append] at hndx ⊢
    grind
   ·simp only [List.mem_append] at hg
    rcases hg with hg | hg | hg
    ·have : g ∈ L' s := by rw [eL]; simp [hg]
     exact ⟨Nat.lt_of_lt_of_le (h1.rep.bound s g this).1 hk.size, .inl ⟨s, .inl rfl, this⟩⟩
    ·exact ⟨(hL g hg).1, .inr (hL g hg).2⟩
    ·have : g ∈ L' s := by rw [eL]; simp [hg]
     exact ⟨Nat.lt_of_lt_of_le (h1.rep.bound s g this).1 hk.size, .inl ⟨s, .inl rfl, this⟩⟩
  ·have hs0 : s = d0 := hs'.resolve_left hsx
   subst hs0
   rw [if_neg hsx, if_pos rfl, tmp_put_same _ _ _ (h1.rep.size _ hd)]
   simp only [puts]
   rw [put_other _ _ _ _ hsx, put_same]
   exact ⟨SR_litAV us hone, List.nodup_nil, fun g hg => by simp at hg⟩
 ·by_cases hsx : s = xr
  ·have hu0 : u ≠ xr := fun e => hsu (hsx.trans e.symm)
   have hu' : u = d0 := hu.resolve_left hu0
   rw [if_neg hu0, if_pos hu'] at hgu
   simp at hgu
  ·have hs0 : s = d0 := hs'.resolve_left hsx
   rw [if_neg hsx, if_pos hs0] at hg
   simp at hg
 ·by_cases hsx : s = xr
  ·subst hsx
   simp only [puts, put_same, AV.ids, List.mem_singleton] at hi
   exact .inl (by rw [hi]; exact hidX)
  ·have hs0 : s = d0 := hs'.resolve_left hsx
   subst hs0
   simp only [puts] at hi
   rw [put_other _ _ _ _ hsx, put_same, litAV_ids] at hi
   simp at hi
theorem sI_ {d0 : Nat} {K : FuncId} {x : Operand} {xs : List Operand} {ts : Array TypeId} {args : List Arg} {v : Value} {d d' dd : D} {xr id : Nat} {path rd rd1 rd2 : List Nat} {up : List (Nat × AV)} {ty pos aft g} [FnOk P K]
  (hc : CallNS P K d args [.one (.lit v)] d') (hi : IoAt st x xr id path dd d rd) (hm : Moves (put st xr (.own id (dd.put path .hole))) xs args rd1 up) (hr : ReadsF (puts (put st xr (.own id (dd.put path .hole))) up) xs args rd2)
  (hx : puts (put st xr (.own id (dd.put path .hole))) up xr = .own id (dd.put path .hole)) (hne : (d0 == xr) = false) (hd : n d0 = true) :
  Step P n ⟨some d0, .call ⟨.value (.func K), (x :: xs).toArray, ts⟩, ty, pos, aft, g⟩ nid st (rd ++ (rd1 ++ rd2)) ((xr, .own id (dd.put path .hole)) :: (up ++ [(d0, .c (.lit v)), (xr, .own id (dd.put path d'))])) := step_call_ioS (rs := [v]) hc hi hm hr hx hne hd
end
end Go.Pv
