/- Rows moved out of a root of rows, and stored back. No condition. -/
import Derived.Test.YtpeioofkihpldaaDoorNPvW
import Derived.Sort.Grow
import Derived.Test.YtpeioofkihpldaaDoorNPvA
set_option linter.unusedVariables false
set_option linter.unusedSimpArgs false
namespace Go.Pv
open Go.RowKit
section
variable {P : Program} {n : NN} {nid : Nat} {st : Nat → AV} {f : Fr} {X : Nat → Prop} {a : Act} {w : World} {ρ : Nat → Rho} {L : Nat → List Nat} {M : List Nat}
inductive BdL (st : Nat → AV) : Option Operand → List Nat → Nat → Prop
 | no : BdL st none [] 0
 | at_ {x k j} {m : Nat} : Lit st x (.int k j) → j = (m : Int) → BdL st (.some x) (rdOf x) m
inductive BdH (st : Nat → AV) (len : Nat) : Option Operand → List Nat → Nat → Prop
 | no : BdH st len none [] len
 | at_ {x k j} {m : Nat} : Lit st x (.int k j) → j = (m : Int) → BdH st len (.some x) (rdOf x) m
theorem BdL.agree {st' : Nat → AV} {x : Option Operand} {rd : List Nat} {m : Nat} (h : BdL st x rd m) (hs : ∀ s ∈ rd, st' s = st s) : BdL st' x rd m := by
 cases h with
 | no => exact .no
 | at_ h e => exact .at_ (h.agree hs) e
theorem BdH.agree {st' : Nat → AV} {len : Nat} {x : Option Operand} {rd : List Nat} {m : Nat} (h : BdH st len x rd m) (hs : ∀ s ∈ rd, st' s = st s) : BdH st' len x rd m := by
 cases h with
 | no => exact .no
 | at_ h e => exact .at_ (h.agree hs) e
theorem BdL.eval (h : RepO f X st a w ρ L) {x : Option Operand} {rd : List Nat} {m : Nat} (hx : BdL st x rd m) : (x.map a.eval = none ∧ m = 0) ∨ ∃ k, x.map a.eval = some (.int k (m : Int)) := by
 cases hx with
 | no => exact .inl ⟨rfl, rfl⟩
 | at_ hl e => subst e; exact .inr ⟨_, by rw [Option.map_some, Lit.eval h hl]⟩
theorem BdH.eval (h : RepO f X st a w ρ L) {x : Option Operand} {len : Nat} {rd : List Nat} {m : Nat} (hx : BdH st len x rd m) : (x.map a.eval = none ∧ m = len) ∨ ∃ k, x.map a.eval = some (.int k (m : Int)) := by
 cases hx with
 | no => exact .inl ⟨rfl, rfl⟩
 | at_ hl e => subst e; exact .inr ⟨_, by rw [Option.map_some, Lit.eval h hl]⟩
theorem run_slice_cut {T : TypeId} {sz : Nat} [hT : SliceTy P T sz] (w : World) (b : Option Addr) (len cap l h : Nat) (lo hi : Option Value) (hlo : (lo = none ∧ l = 0) ∨ ∃ k, lo = some (.int k (l : Int))) (hhi : (hi = none ∧ h = len) ∨ ∃ k, hi = some (.int k (h : Int)))
  (h1 : l ≤ h) (h2 : h ≤ len) (h3 : len ≤ cap) : (Instr.sliceAt T (.slice b len cap) lo hi none).run P w = .ok (.slice (if cap = l then b else b.map (·.add (l * sz))) (h - l) (cap - l)) w := by
 obtain ⟨e, i, z, t1, t2, t3, _⟩ := hT.out
 have q1 : (l : Int) ≤ (h : Int) := by omega
 have q2 : (h : Int) ≤ (cap : Int) := by omega
 have q3 : (len : Int) ≤ (cap : Int) := by omega
 rcases hlo with ⟨rfl, rfl⟩ | ⟨k, rfl⟩ <;> rcases hhi with ⟨rfl, rfl⟩ | ⟨k', rfl⟩ <;>
  simp [Instr.sliceAt, Instr.slice, run_underlying t1, Instr.sliceBounds, Instr.sliceBound, asIntOf, sizeOf, typeInfo, t2, t3, *]
 all_goals omega
theorem map_cut {α : Type} (g : α → D) (A : List α) (l m : Nat) : (((A.map g).drop (l * 1)).take (m * 1)) = ((A.drop l).take m).map g := by
 rw [Nat.mul_one, Nat.mul_one, List.map_take, List.map_drop]
theorem step_slice_sh {α : Type} {g0 : α → D} {A : List α} {d t l h : Nat} {T : TypeId} {lo hi : Option Operand} {r1 r2 : List Nat} {ty pos aft g} [SliceTy P T 1] (ht : st t = .c (.sl false 1 (A.map g0))) (hlo : BdL st lo r1 l) (hhi : BdH st A.length hi r2 h) (h1 : l ≤ h) (h2 : h ≤ A.length) (hd : n d = true) :
  Step P n ⟨some d, .slice T (.tmp t) lo hi none, ty, pos, aft, g⟩ nid st (t :: (r1 ++ r2)) [(d, .c (.sl false 1 (((A.drop l).take (h - l)).map g0)))] := by
 intro X st' hs hX f a w hn hrep K Q hK
 obtain ⟨ρ, L, hr⟩ := hrep
 subst hn
 have hv := hr.slots t
 rw [(hs t (by simp)).trans ht] at hv
 simp only [SR, RD] at hv
 obtain ⟨_, r, _, us, hsh, h5⟩ := hv
 have hl := h5.length
 rw [List.length_map] at hl
 have hsh' := hsh
 obtain ⟨a0, n0, c0, e0, e1, e2, e3, _⟩ := hsh
 have en : n0 = A.length := by omega
 subst en
 have k1 := (hlo.agree fun s hs' => hs s (by simp [hs'])).eval hr
 have k2 := (hhi.agree fun s hs' => hs s (by simp [hs'])).eval hr
 refine wV_ (u := .slice (if c0 = l then a0 else a0.map (·.add (l * 1))) (h - l) (c0 - l)) (w' := w) ?_ (hr.done_light hK hd _ w (Keep.refl w) ?_ (by simp [AV.ids]))
 ·have e1 : a.eval (.tmp t) = _ := e0
  simp only [execOp, e1, Option.map_none, Sem.run_bind, run_slice_cut w a0 A.length c0 l h _ _ k1 k2 h1 h2 (by omega), Result.andThen_ok, Sem.run_pure]
 ·simp only [SR]
  obtain ⟨r', hr'⟩ := RDs.cut (l * 1) ((h - l) * 1) _ _ _ _ h5
  refine ⟨trivial, r', ?_⟩
  simp only [RD]
  refine ⟨trivial, _, hsh'.cut (lo := l) e0 (by omega) (by omega) (by omega) (fun hne => by rw [if_neg (by omega)]), ?_⟩
  rw [← map_cut]
  exact hr'
theorem sr_sub {F : Nat → Prop} {w : World} {ρ : Nat → Rho} {x id l h len : Nat} {path : List Nat} {v : Value} {us : List Value} {L0 : List Nat} (hrow : Row w v 1 us L0) (hv : ρ id path = v) (hl : us.length = len) (h1 : l ≤ h) (h2 : h ≤ len) :
  ∃ a0 c0, v = .slice a0 len c0 ∧ len ≤ c0 ∧ SR F w ρ (.sub x id path 1 l (h - l)) (.slice (if c0 = l then a0 else a0.map (·.add (l * 1))) (h - l) (c0 - l)) [] := by
 rcases hrow with ⟨rfl, rfl, rfl⟩ | ⟨g, o, n0, cap, cur, e, rfl, k2, k3, k4, k5, _⟩
 ·simp only [List.length_nil] at hl
  subst hl
  refine ⟨none, 0, rfl, Nat.le_refl _, ?_⟩
  simp only [SR]
  exact ⟨trivial, none, 0, 0, _, _, hv, rfl, by omega, by omega, by unfold maxLen; omega, fun hne => absurd (show h - l = 0 by omega) hne⟩
 ·have : n0 = len := by omega
  subst this
  refine ⟨_, cap, rfl, k4, ?_⟩
  simp only [SR]
  exact ⟨trivial, _, n0, cap, _, _, hv, rfl, by omega, by omega, by omega, fun hne => ⟨rfl, by rw [if_neg (by omega)]⟩⟩
theorem step_move_header {d t id : Nat} {cs : List D} {ty pos aft g} (ht : st t = .own id (.sl true 1 cs)) (hd : n d = true) :
  Step P n ⟨some d, .move (.tmp t), ty, pos, aft, g⟩ nid st [t] [(d, .sub t id [] 1 0 cs.length)] := by
 intro X st' hs hX f a w hn hrep K Q hK
 obtain ⟨ρ, L, hr⟩ := hrep
 subst hn
 have ht' := (hs t (by simp)).trans ht
 have hi' := hr.ids t
 rw [ht'] at hi'
 obtain ⟨us, L0, L1, q1, q2, q3⟩ := hr.partSl (path := []) ht' rfl
 have hl := q2.length
 have ev : tmp a t = ρ id [] := by
  have := hr.slots t
  rw [ht'] at this
  simp only [SR, RD] at this
  exact this.1
 obtain ⟨a0, c0, e0, e2, hsr⟩ := sr_sub (F := f.F) (ρ := ρ) (x := t) (id := id) (path := []) q1 rfl hl (Nat.zero_le _) (Nat.le_refl _)
 have e1 : Value.slice (if c0 = 0 then a0 else a0.map (·.add (0 * 1))) (cs.length - 0) (c0 - 0) = tmp a t := by
  rw [ev, e0]
  cases a0 with
  | none => simp
  | some b => simp [add_zero']
 rw [e1] at hsr
 exact wV_ (u := tmp a t) (w' := w) rfl (hr.done_light hK hd _ w (Keep.refl w) hsr (by simpa [AV.ids] using hi'))
theorem hdr_own {x : AV} {id sz : Nat} {cs : List D} (h : hdr x = hdr (.own id (.sl true sz cs))) : ∃ cs', x = .own id (.sl true sz cs') ∧ cs'.length = cs.length := by
 by_cases hx : ∃ id' sz' cs', x = .own id' (.sl true sz' cs')
 ·obtain ⟨id', sz', cs', rfl⟩ := hx
  simp only [hdr, AV.own.injEq, D.sl.injEq, true_and] at h
  obtain ⟨rfl, rfl, h⟩ := h
  exact ⟨cs', rfl, by simpa using congrArg List.length h⟩
 ·by_cases hp : ∃ i ds, x = .own i (.pt true ds)
  ·obtain ⟨i, ds, rfl⟩ := hp
   simp [hdr] at h
  ·have e : hdr x = x := by
    unfold hdr
    split
    ·exact absurd ⟨_, _, _, rfl⟩ hx
    ·exact absurd ⟨_, _, rfl⟩ hp
    ·rfl
   rw [e] at h
   exact absurd ⟨_, _, _, h⟩ hx
theorem hdr_set {x : AV} {id sz k : Nat} {cs : List D} {d : D} (h : x = .own id (.sl true sz cs)) : hdr (.own id (.sl true sz (cs.set k d))) = hdr x := by
 subst h; simp [hdr]
theorem stepW_move_header {d t id : Nat} {cs : List D} {ty pos aft g} (ht : st t = .own id (.sl true 1 cs)) (hd : n d = true) :
  StepW P n ⟨some d, .move (.tmp t), ty, pos, aft, g⟩ nid st [t] [] [(d, .sub t id [] 1 0 cs.length)] := by
 intro X st' _ hw hX
 obtain ⟨cs', h1, h2⟩ := hdr_own (by rw [hw t (by simp), ht])
 have := step_move_header (P := P) (n := n) (nid := nid) (st := st') (ty := ty) (pos := pos) (aft := aft) (g := g) h1 hd X st' (fun _ _ => rfl) hX
 rw [h2] at this
 exact this
theorem rds_lits {F : Nat → Prop} {w : World} {α : Type} {enc : α → Value} (h1 : ∀ x, (enc x).oneCell' = true) : ∀ (l : List α) (k : Nat) (r : Rho) (us : List Value) (L : List Nat), RDs F w (l.map fun x => D.lit (enc x)) k r us L ↔ us = l.map enc ∧ L = []
 | [], k, r, us, L => by simp [RDs]
 | x :: l, k, r, us, L => by
  simp only [List.map_cons, RDs, RD]
  constructor
  ·rintro ⟨u, us', L1, L2, rfl, rfl, ⟨rfl, _, rfl⟩, h⟩
   obtain ⟨rfl, rfl⟩ := (rds_lits h1 l (k + 1) r us' L2).1 h
   exact ⟨rfl, rfl⟩
  ·rintro ⟨rfl, rfl⟩
   exact ⟨enc x, _, [], [], rfl, rfl, ⟨rfl, h1 x, rfl⟩, (rds_lits h1 l (k + 1) r _ []).2 ⟨rfl, rfl⟩⟩
end
section
variable {P : Program} {n : NN} {nid : Nat} {st : Nat → AV} {f : Fr} {X : Nat → Prop} {a : Act} {w : World} {ρ : Nat → Rho} {L : Nat → List Nat} {M : List Nat}
def chop : List Nat → List D → List (List D)
 | [], _ => []
 | s :: szs, ds => ds.take s :: chop szs (ds.drop s)
def optsOf : Nat → Nat → List (Nat × Operand) → List (Option Operand)
 | 0, _, _ => []
 | k + 1, i, [] => none :: optsOf k (i + 1) []
 | k + 1, i, (j, x) :: l => if j == i then some x :: optsOf k (i + 1) l else none :: optsOf k (i + 1) ((j, x) :: l)
def partsOf {α : Type} : List (Option α) → Nat → List (Nat × α)
 | [], _ => []
 | some v :: os, i => (i, v) :: partsOf os (i + 1)
 | none :: os, i => partsOf os (i + 1)
def overlay : List (Option Value) → List Nat → List Value → List Value
 | some v :: os, s :: szs, r => v.cells.toList ++ overlay os szs (r.drop s)
 | none :: os, s :: szs, r => r.take s ++ overlay os szs (r.drop s)
 | _, _, r => r
theorem partsOf_map {α β : Type} (g : α → β) : ∀ (os : List (Option α)) (i : Nat), (partsOf os i).map (fun p => (p.1, g p.2)) = partsOf (os.map (Option.map g)) i
 | [], _ => rfl
 | some v :: os, i => by simp only [partsOf, List.map_cons, Option.map_some, partsOf_map g os (i + 1)]
 | none :: os, i => by simp only [partsOf, List.map_cons, Option.map_none, partsOf_map g os (i + 1)]
theorem fill_opt (place : Nat → Option (Nat × Nat)) : ∀ (os : List (Option Value)) (szs : List Nat) (i off : Nat) (init : Array Value), os.length = szs.length → (∀ j s, szs[j]? = some s → place (i + j) = some (off + (szs.take j).sum, s)) →
  (∀ (j : Nat) (v : Value) (s : Nat), os[j]? = some (some v) → szs[j]? = some s → v.cells.toList.length = s) → off + szs.sum ≤ init.size → Instr.fill place init (partsOf os i) = some (init.toList.take off ++ overlay os szs (init.toList.drop off)).toArray
 | [], [], i, off, init, _, _, _, _ => by simp [partsOf, overlay, Instr.fill]
 | [], _ :: _, _, _, _, h, _, _, _ => by simp at h
 | _ :: _, [], _, _, _, h, _, _, _ => by simp at h
 | none :: os, s :: szs, i, off, init, hl, hp, hc, hs => by
  simp only [List.sum_cons] at hs
  simp only [partsOf, overlay]
  rw [fill_opt place os szs (i + 1) (off + s) init (by simpa using hl) (fun j s' hj => by
   have := hp (j + 1) s' (by simpa using hj)
   rw [show i + 1 + j = i + (j + 1) by omega, this]
   simp only [List.take_succ_cons, List.sum_cons]
   congr 2
   omega) (fun j v s' h1 h2 => hc (j + 1) v s' (by simpa using h1) (by simpa using h2)) (by omega)]
  congr 2
  rw [List.take_add, List.append_assoc, List.drop_drop]
 | some v :: os, s :: szs, i, off, init, hl, hp, hc, hs => by
  have h0 := hp 0 s rfl
  have hv := hc 0 v s rfl rfl
  simp only [Nat.add_zero, List.take_zero, List.sum_nil] at h0
  simp only [List.sum_cons] at hs
  simp only [partsOf, overlay, Instr.fill, h0]
  have hsz : v.cells.size = v.cells.toList.length := by simp
  rw [if_neg (by rw [hsz, hv]; simp only [ne_eq, not_true_eq_false, decide_false, Bool.false_or, decide_eq_true_eq]; omega)]
  have hf : (v.cells.zipIdx.foldl (fun cs (x : Value × Nat) => cs.setIfInBounds (off + x.2) x.1) init) = (init.toList.take off ++ (v.cells.toList ++ init.toList.drop (off + v.cells.toList.length))).toArray := by
   rw [← Array.foldl_toList, Array.toList_zipIdx]
   have := foldl_cells off v.cells.toList 0 init (by omega)
   simpa using this
  rw [hf]
  generalize hcc : v.cells.toList = c at *
  subst hv
  have hX : (init.toList.take off).length = off := by rw [List.length_take, Array.length_toList]; omega
  generalize hI : init.toList.take off = X0 at *
  rw [List.drop_drop]
  generalize hY : init.toList.drop (off + c.length) = Y0 at *
  have hYl : Y0.length = init.size - (off + c.length) := by rw [← hY, List.length_drop, Array.length_toList]
  rw [fill_opt place os szs (i + 1) (off + c.length) _ (by simpa using hl) (fun j s' hj => by
   have := hp (j + 1) s' (by simpa using hj)
   rw [show i + 1 + j = i + (j + 1) by omega, this]
   simp only [List.take_succ_cons, List.sum_cons]
   congr 2
   omega) (fun j v s' h1 h2 => hc (j + 1) v s' (by simpa using h1) (by simpa using h2)) (by simp only [List.size_toArray, List.length_append, hX, hYl]; omega)]
  have e1 : (X0 ++ (c ++ Y0)).take (off + c.length) = X0 ++ c := by
   rw [← List.append_assoc]
   exact List.take_left' (by rw [List.length_append, hX])
  have e2 : (X0 ++ (c ++ Y0)).drop (off + c.length) = Y0 := by
   rw [← List.append_assoc]
   exact List.drop_left' (by rw [List.length_append, hX])
  simp only [e1, e2, List.append_assoc]
theorem ZeroDs.cut : ∀ {us : List Value} {ds : List D} (s : Nat), ZeroDs us ds → ZeroDs (us.take s) (ds.take s) ∧ ZeroDs (us.drop s) (ds.drop s)
 | _, _, 0, h => by simpa using ⟨ZeroDs.nil, h⟩
 | _, _, s + 1, .nil => ⟨.nil, .nil⟩
 | _, _, s + 1, .cons h1 h2 => ⟨.cons h1 (ZeroDs.cut s h2).1, (ZeroDs.cut s h2).2⟩
inductive GivesO : (Nat → AV) → List (Option Operand) → List (List D) → List Nat → List (List D) → List (Nat × AV) → Prop
 | nil {s0} : GivesO s0 [] [] [] [] []
 | given {s0 x xs z zs rd rds d ds up ups} : GiveV s0 x rd d up → d.length = z.length → GivesO (puts s0 up) xs zs rds ds ups → GivesO s0 (some x :: xs) (z :: zs) (rd ++ rds) (d :: ds) (up ++ ups)
 | zero {s0 xs z zs rds ds ups} : GivesO s0 xs zs rds ds ups → GivesO s0 (none :: xs) (z :: zs) rds (z :: ds) ups
theorem GivesO.agree : ∀ {st st' : Nat → AV} {xs : List (Option Operand)} {zs : List (List D)} {rd : List Nat} {ds : List (List D)} {up : List (Nat × AV)}, GivesO st xs zs rd ds up → (∀ s ∈ rd, st' s = st s) → GivesO st' xs zs rd ds up
 | _, _, _, _, _, _, _, .nil, _ => .nil
 | _, _, _, _, _, _, _, .given h1 h2 h3, hs => .given (h1.agree fun s hs' => hs s (by simp [hs'])) h2 (GivesO.agree h3 fun s hs' => puts_agree _ _ (hs s (by simp [hs'])))
 | _, _, _, _, _, _, _, .zero h, hs => .zero (GivesO.agree h hs)
theorem RepM.givesO : ∀ {st : Nat → AV} {L : Nat → List Nat} {M : List Nat}, RepM f X st a w ρ L M → ∀ {os : List (Option Operand)} {zs : List (List D)} {rd : List Nat} {dss : List (List D)} {up : List (Nat × AV)}, GivesO st os zs rd dss up → ∀ (k : Nat) (zc : List Value), ZeroDs zc zs.flatten →
  ∃ r L' M1, RepM f X (puts st up) a w ρ L' (M ++ M1) ∧ RDs f.F w dss.flatten k r (overlay (os.map (Option.map a.eval)) (zs.map List.length) zc) M1 ∧ (∀ (j : Nat) (v : Value) (s : Nat), (os.map (Option.map a.eval))[j]? = some (some v) → (zs.map List.length)[j]? = some s → v.cells.toList.length = s)
 | st, L, M, h, _, _, _, _, _, .nil, k, zc, hz => by
  simp only [List.flatten_nil] at hz
  cases hz
  exact ⟨fun _ => undef, L, [], by simpa [puts] using h, by simp [RDs, overlay], by simp⟩
 | st, L, M, h, _, _, _, _, _, .given (x := x) (xs := xs) (z := z) (zs := zs) (d := d) (ds := dss) h1 h2 h3, k, zc, hz => by
  obtain ⟨r1, L1, M1, us, hm1, hus, hr1⟩ := h.giveV h1
  have hz' := (hz.cut z.length).2
  simp only [List.flatten_cons, List.drop_left] at hz'
  obtain ⟨r2, L2, M2, hm2, hr2, hl2⟩ := RepM.givesO hm1 h3 (k + d.length) _ hz'
  have hlen := hr1.length
  refine ⟨(fun π => match π with | [] => undef | j :: q => if j < k + d.length then r1 ((j - k) :: q) else r2 (j :: q)), L2, M1 ++ M2, ?_, ?_, ?_⟩
  ·rw [puts_append, ← List.append_assoc]; exact hm2
  ·simp only [List.map_cons, List.flatten_cons, Option.map_some, overlay, hus]
   have e1 := RDs.unshift d 0 k r1 us M1 hr1
   rw [Nat.zero_add] at e1
   refine RDs.append d dss.flatten k _ us _ M1 M2 ?_ ?_
   ·exact rds_cong e1 fun j hj hjl => by
     funext π
     simp [Rho.at, show j < k + d.length from hjl]
   ·exact RDs.rho _ _ r2 _ _ _ hr2 fun j hj => by
     funext π
     simp [Rho.at, show ¬ j < k + d.length from by omega]
  ·intro j v s hj hs
   cases j with
   | zero =>
    simp only [List.map_cons, List.getElem?_cons_zero, Option.map_some, Option.some.injEq] at hj hs
    rw [← hj, hus, hlen, h2, hs]
   | succ j => exact hl2 j v s (by simpa using hj) (by simpa using hs)
 | st, L, M, h, _, _, _, _, _, .zero (xs := xs) (z := z) (zs := zs) (ds := dss) h3, k, zc, hz => by
  have hz1 := (hz.cut z.length).1
  have hz' := (hz.cut z.length).2
  simp only [List.flatten_cons, List.drop_left, List.take_left] at hz' hz1
  obtain ⟨r2, L2, M2, hm2, hr2, hl2⟩ := RepM.givesO h h3 (k + z.length) _ hz'
  obtain ⟨r1, hr1⟩ := ZeroDs.rds (F := f.F) (w := w) 0 hz1
  refine ⟨(fun π => match π with | [] => undef | j :: q => if j < k + z.length then r1 ((j - k) :: q) else r2 (j :: q)), L2, M2, hm2, ?_, ?_⟩
  ·simp only [List.map_cons, List.flatten_cons, Option.map_none, overlay]
   have e1 := RDs.unshift z 0 k r1 _ [] hr1
   rw [Nat.zero_add] at e1
   refine RDs.append z dss.flatten k _ _ _ [] M2 ?_ ?_
   ·exact rds_cong e1 fun j hj hjl => by
     funext π
     simp [Rho.at, show j < k + z.length from hjl]
   ·exact RDs.rho _ _ r2 _ _ _ hr2 fun j hj => by
     funext π
     simp [Rho.at, show ¬ j < k + z.length from by omega]
  ·intro j v s hj hs
   cases j with
   | zero => simp at hj
   | succ j => exact hl2 j v s (by simpa using hj) (by simpa using hs)
theorem GivesO.length : ∀ {st : Nat → AV} {xs : List (Option Operand)} {zs : List (List D)} {rd : List Nat} {ds : List (List D)} {up : List (Nat × AV)}, GivesO st xs zs rd ds up → xs.length = zs.length
 | _, _, _, _, _, _, .nil => rfl
 | _, _, _, _, _, _, .given _ _ h => by simp [GivesO.length h]
 | _, _, _, _, _, _, .zero h => by simp [GivesO.length h]
theorem chop_len : ∀ (szs : List Nat) (ds : List D), szs.sum = ds.length → (chop szs ds).map List.length = szs ∧ (chop szs ds).flatten = ds
 | [], ds, h => by
  have : ds = [] := List.eq_nil_of_length_eq_zero (by simpa using h.symm)
  subst this
  exact ⟨rfl, rfl⟩
 | s :: szs, ds, h => by
  simp only [List.sum_cons] at h
  have h1 := chop_len szs (ds.drop s) (by rw [List.length_drop]; omega)
  constructor
  ·simp only [chop, List.map_cons, h1.1, List.length_take]
   congr 1
   omega
  ·simp only [chop, List.flatten_cons, h1.2, List.take_append_drop]
theorem ZeroDs.len : ∀ {us : List Value} {ds : List D}, ZeroDs us ds → us.length = ds.length
 | _, _, .nil => rfl
 | _, _, .cons _ h => by simp [ZeroDs.len h]
theorem step_build_some {d : Nat} {T : TypeId} {szs : List Nat} {zs : List D} {ps : Array (Nat × Operand)} {rd : List Nat} {dss : List (List D)} {up : List (Nat × AV)} {ty pos aft g} [hT : BuildTy P T szs] [hZ : ZeroTy P T zs] (h : GivesO st (optsOf szs.length 0 ps.toList) (chop szs zs) rd dss up) (hp : partsOf (optsOf szs.length 0 ps.toList) 0 = ps.toList) (hd : n d = true) :
  Step P n ⟨some d, .build T ps, ty, pos, aft, g⟩ nid st rd (up ++ [(d, .agg (dss.flatten.map AV.raw))]) := by
 intro X st' hs hX f a w hn hrep K Q hK
 obtain ⟨ρ, L, hr⟩ := hrep
 subst hn
 obtain ⟨z, fs, h1, h2, h3, h4⟩ := hT.out
 obtain ⟨i', z', g1, g2, g3⟩ := hZ.out
 obtain ⟨i, hi, hz⟩ := Option.map_eq_some_iff.1 h1
 have e0 : i' = i := by rw [hi] at g1; exact (Option.some.inj g1).symm
 subst e0
 have e0 : z' = z := by rw [hz] at g2; exact (Option.some.inj g2).symm
 subst e0
 have hzl := g3.len
 have hsum : szs.sum = zs.length := by rw [← hzl, ← h4]; simp
 obtain ⟨c1, c2⟩ := chop_len szs zs hsum
 obtain ⟨r, L', M1, hm, hv, hlen⟩ := hr.toM.givesO (h.agree hs) 0 z'.cells.toList (by rw [c2]; exact g3)
 rw [puts_append] at hK
 rw [List.nil_append] at hm
 rw [c1] at hv hlen
 have hol : ((optsOf szs.length 0 ps.toList).map (Option.map a.eval)).length = szs.length := by
  rw [List.length_map, h.length]
  have := congrArg List.length c1
  simpa using this
 have hrun : (Instr.build T (ps.map fun (i, x) => (i, a.eval x))).run P w = .ok (.agg (overlay ((optsOf szs.length 0 ps.toList).map (Option.map a.eval)) szs z'.cells.toList).toArray) w := by
  refine run_build w T _ _ ?_
  unfold Program.built
  have hpp : (ps.map fun (i, x) => (i, a.eval x)).toList = partsOf ((optsOf szs.length 0 ps.toList).map (Option.map a.eval)) 0 := by
   rw [← partsOf_map, hp, Array.toList_map]
  simp only [hi, h2, hz, h3, hpp]
  have := fill_opt (fun k => (placesOf szs 0).toArray[k]?) ((optsOf szs.length 0 ps.toList).map (Option.map a.eval)) szs 0 0 z'.cells hol (fun j s hj => by
   have := placesOf_at szs 0 j _ hj
   rw [Nat.zero_add, List.getElem?_toArray, this]) hlen (by rw [h4]; omega)
  rw [this]
  simp
 refine wV_ (u := .agg (overlay ((optsOf szs.length 0 ps.toList).map (Option.map a.eval)) szs z'.cells.toList).toArray) (w' := w) ?_ (hm.put_raw (id := nid) (K := K) hK hd _ w [] (by simp) (Keep.refl w) M1 ?_ hm.nd (fun g hg => ⟨(hm.bound g hg).1, .inl hg⟩) ?_)
 ·simp only [execOp, Sem.run_bind]
  rw [hrun]
  rfl
 ·simp only [SR]
  exact ⟨_, rfl, SRs_raws _ 0 r _ _ hv⟩
 ·simp only [AV.ids, idss_raws]; simp
inductive IntsOf : List D → List Int → Prop
 | raw {l} : IntsOf (ints l) l
 | nil : IntsOf [] []
 | cons {x cs l} : IntsOf cs l → IntsOf (.lit (.int .i64 x) :: cs) (x :: l)
theorem IntsOf.eq : ∀ {cs : List D} {l : List Int}, IntsOf cs l → cs = ints l
 | _, _, .raw => rfl
 | _, _, .nil => rfl
 | _, _, .cons h => by rw [h.eq]; rfl
theorem step_append_ints_any {d : Nat} {T : TypeId} {s x : Operand} {rd rd2 : List Nat} {cs cs2 : List D} {l m : List Int} {up : List (Nat × AV)} {ty pos aft g} [hT : SliceTy P T 1] (h : Give st s rd (.sl true 1 cs) up) (hl : IntsOf cs l) (hv : View (puts st up) x rd2 1 cs2) (hm : IntsOf cs2 m) (hb : l.length + m.length ≤ 1099511627776) (hd : n d = true) :
  Step P n ⟨some d, .call ⟨.builtin .append, #[s, x], #[T, T]⟩, ty, pos, aft, g⟩ nid st (rd ++ rd2) (up ++ [(d, .own nid (.sl true 1 (ints (l ++ m))))]) := by
 rw [hl.eq] at h
 rw [hm.eq] at hv
 exact step_append_ints_view h hv hb hd
inductive LLOf : List D → List (List Int) → Prop
 | raw {Q : List (List Int)} : LLOf (LL Q) Q
 | nil : LLOf [] []
theorem LLOf.eq {cs : List D} {L : List (List Int)} (h : LLOf cs L) : cs = LL L := by cases h <;> rfl
theorem step_append_LL_any {d : Nat} {T : TypeId} {s x : Operand} {rd rd2 : List Nat} {hs cs : List D} {L0 : List (List Int)} {l : List Int} {up up2 : List (Nat × AV)} {ty pos aft g} [hT : SliceTy P T 1] (h : Give st s rd (.sl true 1 hs) up) (hl : LLOf hs L0) (hv : Give (puts st up) x rd2 (.sl true 1 [.sl true 1 cs]) up2) (hc : IntsOf cs l) (hb : L0.length ≤ 1099511627000) (hd : n d = true) :
  Step P n ⟨some d, .call ⟨.builtin .append, #[s, x], #[T, T]⟩, ty, pos, aft, g⟩ nid st (rd ++ rd2) ((up ++ up2) ++ [(d, .own nid (.sl true 1 (LL (L0 ++ [l]))))]) := by
 rw [hl.eq] at h
 rw [hc.eq] at hv
 exact step_append_LL1 h hv hb hd
end
end Go.Pv
namespace Go.Pv
section
variable {P : Program} {n : NN} {nid : Nat} {st : Nat → AV}
theorem step_min {d : Nat} {x y : Operand} {ts : Array TypeId} {a b : Int} {ty pos aft g} (hx : Lit st x (.int .i64 a)) (hy : Lit st y (.int .i64 b)) (hd : n d = true) :
  Step P n ⟨some d, .call ⟨.builtin .min, #[x, y], ts⟩, ty, pos, aft, g⟩ nid st (rdOf x ++ rdOf y) [(d, .c (.lit (.int .i64 (min a b))))] := by
 have := step_pure (P := P) (n := n) (nid := nid) (st := st) (o := ⟨some d, .call ⟨.builtin .min, #[x, y], ts⟩, ty, pos, aft, g⟩) (d := d) (u := .int .i64 (min a b)) [(x, .int .i64 a), (y, .int .i64 b)] rfl hd rfl (by simpa using ⟨hx, hy⟩) (fun ev w hev => by
  have e1 := hev (x, .int .i64 a) (by simp)
  have e2 := hev (y, .int .i64 b) (by simp)
  simp only at e1 e2
  have e3 : (if b < a then b else a) = min a b := by omega
  simp [execOp, resolve, invoke, builtin, e1, e2, Builtin.min_, Builtin.min2, e3])
 simpa using this
end
end Go.Pv
namespace Go.Pv
section
variable {P : Program} {n : NN} {nid : Nat} {st : Nat → AV}
theorem put_hole {A : List (List Int)} {k : Nat} (h : k < A.length) : (D.sl true 1 (LL A)).put [k] .hole = .sl true 1 ((LL A).set k .hole) := by
 simp only [D.put, D.kids, LL, LL_get h, D.withKids]
theorem give_row {t x id k : Nat} {A : List (List Int)} (h : st t = .als x id [k]) (hx : st x = .own id (.sl true 1 (LL A))) (hk : k < A.length) :
  Give st (.tmp t) [t, x] (.sl true 1 (ints (A.getD k []))) [(x, .own id (.sl true 1 ((LL A).set k .hole)))] := by
 have := Give.part (st := st) (t := t) (k := k) (path := []) h hx (nav_LL hk)
 rwa [put_hole hk] at this
theorem over_row {A : List (List Int)} {k : Nat} {m : List Int} (h : k < A.length) : D.over ((LL A).set k .hole) k [.sl true 1 (ints m)] = LL (A.set k m) := by
 simp only [D.over, List.set_set, LL, List.map_set]
theorem step_store_row {t tv x id idv k : Nat} {A : List (List Int)} {m : List Int} {T : TypeId} {ty pos aft g} [hT : SizeTy P T 1] (h : st t = .ptr x id [] k) (hx : st x = .own id (.sl true 1 ((LL A).set k .hole))) (hv : st tv = .own idv (.sl true 1 (ints m)))
  (h1 : (t == tv) = false) (h2 : (x == tv) = false) (hk : k < A.length) :
  Step P n ⟨none, .store T (.tmp t) (.tmp tv), ty, pos, aft, g⟩ nid st ([tv] ++ [t, x]) ([(tv, .dead)] ++ [(x, .own nid (.sl true 1 (LL (A.set k m))))]) := by
 have h1 : t ≠ tv := by simpa using h1
 have h2 : x ≠ tv := by simpa using h2
 have := step_store_give_ptr (P := P) (n := n) (nid := nid) (T := T) (ty := ty) (pos := pos) (aft := aft) (g := g) (.one (.own hv)) (t := t) (x := x) (id := id) (off := k) (path := []) (dd := .sl true 1 ((LL A).set k .hole)) (d1 := .sl true 1 ((LL A).set k .hole)) (cs := (LL A).set k .hole)
  (by simp only [puts]; rw [put_other _ _ _ _ h1]; exact h) (by simp only [puts]; rw [put_other _ _ _ _ h2]; exact hx) rfl rfl (m := 1) rfl (by simp [LL]; omega) (by simp)
 rw [over_row hk] at this
 exact this
theorem step_index_head0 {d t x id : Nat} {path : List Nat} {xi : Operand} {T : TypeId} {sz m nn : Nat} {k : IntKind} {j : Int} {ty pos aft g} [SliceTy P T sz] (h : st t = .sub x id path sz 0 nn)
  (hi : Lit st xi (.int k j)) (hj : j = (m : Int)) (hm : m < nn) (hd : n d = true) :
  Step P n ⟨some d, .indexAddr T (.tmp t) xi, ty, pos, aft, g⟩ nid st (t :: rdOf xi) [(d, .ptr x id path (m * sz))] := by
 have := step_index_header (P := P) (n := n) (nid := nid) (T := T) (sz := sz) (ty := ty) (pos := pos) (aft := aft) (g := g) h hi hj hm hd
 rwa [Nat.zero_add] at this
theorem stepW_move_headL {d t id : Nat} {A : List (List Int)} {ty pos aft g} (ht : st t = .own id (.sl true 1 (LL A))) (hd : n d = true) :
  StepW P n ⟨some d, .move (.tmp t), ty, pos, aft, g⟩ nid st [t] [] [(d, .sub t id [] 1 0 A.length)] := by
 have := stepW_move_header (P := P) (n := n) (nid := nid) (ty := ty) (pos := pos) (aft := aft) (g := g) ht hd
 rwa [show (LL A).length = A.length by simp [LL]] at this
end
end Go.Pv
