/- Rows moved out of a root of rows, and stored back. No condition. -/
import Derived.Test.YtmgmpnhlehonmaaGreatWPvZ
import Derived.Sort.Grow
import Derived.Test.YtmgmpnhlehonmaaGreatWPvC
set_option linter.unusedVariables false
set_option linter.unusedSimpArgs false
namespace Go.Pv
open Go.RowKit
section
variable {P : Program} {n : NN} {nid : Nat} {st : Nat -> AV} {f : Fr} {X : Nat -> Prop} {a : Act} {w : World} {ρ : Nat -> Rho} {L : Nat -> List Nat} {M : List Nat}
inductive BdL (st : Nat -> AV) : Option Operand -> List Nat -> Nat -> Prop
 | no : BdL st none [] 0
 | at_ {x k j} {m : Nat} : Lit st x (.int k j) -> j = (m : Int) -> BdL st (.some x) (Z5 x) m
inductive BdH (st : Nat -> AV) (len : Nat) : Option Operand -> List Nat -> Nat -> Prop
 | no : BdH st len none [] len
 | at_ {x k j} {m : Nat} : Lit st x (.int k j) -> j = (m : Int) -> BdH st len (.some x) (Z5 x) m
theorem BdL.agree {st' : Nat -> AV} {x : Option Operand} {rd : List Nat} {m : Nat} (h : BdL st x rd m) (hs : ∀ s ∈ rd, st' s = st s) : BdL st' x rd m := by
 cases h with
 | no => exact .no
 | at_ h e => exact .at_ (h.agree hs) e
theorem BdH.agree {st' : Nat -> AV} {len : Nat} {x : Option Operand} {rd : List Nat} {m : Nat} (h : BdH st len x rd m) (hs : ∀ s ∈ rd, st' s = st s) : BdH st' len x rd m := by
 cases h with
 | no => exact .no
 | at_ h e => exact .at_ (h.agree hs) e
theorem BdL.eval (h : Ve f X st a w ρ L) {x : Option Operand} {rd : List Nat} {m : Nat} (hx : BdL st x rd m) : (x.map a.eval = none /\ m = 0) \/ ∃ k, x.map a.eval = some (.int k (m : Int)) := by
 cases hx with
 | no => exact .inl ⟨rfl, rfl⟩
 | at_ hl e => subst e; exact .inr ⟨_, by rw [Option.map_some, Lit.eval h hl]⟩
theorem BdH.eval (h : Ve f X st a w ρ L) {x : Option Operand} {len : Nat} {rd : List Nat} {m : Nat} (hx : BdH st len x rd m) : (x.map a.eval = none /\ m = len) \/ ∃ k, x.map a.eval = some (.int k (m : Int)) := by
 cases hx with
 | no => exact .inl ⟨rfl, rfl⟩
 | at_ hl e => subst e; exact .inr ⟨_, by rw [Option.map_some, Lit.eval h hl]⟩
theorem Jf {T : TypeId} {sz : Nat} [hT : Zu P T sz] (w : World) (b : Option Addr) (len cap l h : Nat) (lo hi : Option Value) (hlo : (lo = none /\ l = 0) \/ ∃ k, lo = some (.int k (l : Int))) (hhi : (hi = none /\ h = len) \/ ∃ k, hi = some (.int k (h : Int)))
  (h1 : l <= h) (h2 : h <= len) (h3 : len <= cap) : (Instr.sliceAt T (.slice b len cap) lo hi none).run P w = .ok (.slice (if cap = l then b else b.map (·.add (l * sz))) (h - l) (cap - l)) w := by
 obtain ⟨e, i, z, t1, t2, t3, _⟩ := hT.out
 have q1 : (l : Int) <= (h : Int) := by omega
 have q2 : (h : Int) <= (cap : Int) := by omega
 have q3 : (len : Int) <= (cap : Int) := by omega
 rcases hlo with ⟨rfl, rfl⟩ | ⟨k, rfl⟩ <;> rcases hhi with ⟨rfl, rfl⟩ | ⟨k', rfl⟩ <;>
  simp [Instr.sliceAt, Instr.slice, run_underlying t1, Instr.sliceBounds, Instr.sliceBound, asIntOf, sizeOf, typeInfo, t2, t3, *]
 all_goals omega
theorem Zqq {α : Type} (g : α -> D) (A : List α) (l m : Nat) : (((A.map g).drop (l * 1)).take (m * 1)) = ((A.drop l).take m).map g := by
 rw [Nat.mul_one, Nat.mul_one, List.map_take, List.map_drop]
theorem Zi4 {α : Type} {g0 : α -> D} {A : List α} {d t l h : Nat} {T : TypeId} {lo hi : Option Operand} {r1 r2 : List Nat} {ty pos aft g} [Zu P T 1] (ht : st t = .c (.sl false 1 (A.map g0))) (hlo : BdL st lo r1 l) (hhi : BdH st A.length hi r2 h) (h1 : l <= h) (h2 : h <= A.length) (hd : n d = true) :
  Zg P n ⟨some d, .slice T (.tmp t) lo hi none, ty, pos, aft, g⟩ nid st (t :: (r1 ++ r2)) [(d, .c (.sl false 1 (((A.drop l).take (h - l)).map g0)))] := by
 intro X st' hs hX f a w hn hrep K Q hK
 obtain ⟨ρ, L, hr⟩ := hrep
 subst hn
 have hv := hr.slots t
 rw [(hs t (by simp)).trans ht] at hv
 simp only [SR, RD] at hv
 obtain ⟨_, r, _, us, hsh, h5⟩ := hv
 have hl := h5.length
 rw [List.length_map] at hl
 have hsh' := hsh
 obtain ⟨a0, n0, c0, e0, e1, e2, e3, _⟩ := hsh
 have en : n0 = A.length := by omega
 subst en
 have k1 := (hlo.agree fun s hs' => hs s q9).eval hr
 have k2 := (hhi.agree fun s hs' => hs s q9).eval hr
 refine wV_ (u := .slice (if c0 = l then a0 else a0.map (·.add (l * 1))) (h - l) (c0 - l)) (w' := w) ?_ (hr.done_light hK hd _ w (Zy.refl w) ?_ u3)
 ·have e1 : a.eval (.tmp t) = _ := e0
  simp only [execOp, e1, Option.map_none, Sem.run_bind, Jf w a0 A.length c0 l h _ _ k1 k2 h1 h2 j2, Result.andThen_ok, Sem.run_pure]
 ·simp only [SR]
  obtain ⟨r', hr'⟩ := RDs.cut (l * 1) ((h - l) * 1) _ _ _ _ h5
  refine ⟨trivial, r', ?_⟩
  simp only [RD]
  refine ⟨trivial, _, hsh'.cut (lo := l) e0 j2 j2 j2 (fun hne => by rw [if_neg j2]), ?_⟩
  rw [<- Zqq]
  exact hr'
theorem Zpa {F : Nat -> Prop} {w : World} {ρ : Nat -> Rho} {x id l h len : Nat} {path : List Nat} {v : Value} {us : List Value} {L0 : List Nat} (hrow : Row w v 1 us L0) (hv : ρ id path = v) (hl : us.length = len) (h1 : l <= h) (h2 : h <= len) :
  ∃ a0 c0, v = .slice a0 len c0 /\ len <= c0 /\ SR F w ρ (.sub x id path 1 l (h - l)) (.slice (if c0 = l then a0 else a0.map (·.add (l * 1))) (h - l) (c0 - l)) [] := by
 rcases hrow with ⟨rfl, rfl, rfl⟩ | ⟨g, o, n0, cap, cur, e, rfl, k2, k3, k4, k5, _⟩
 ·simp only [List.length_nil] at hl
  subst hl
  refine ⟨none, 0, rfl, Nat.le_refl _, ?_⟩
  simp only [SR]
  exact ⟨trivial, none, 0, 0, _, _, hv, rfl, by omega, by omega, by unfold maxLen; omega, fun hne => absurd (show h - l = 0 by omega) hne⟩
 ·have : n0 = len := by omega
  subst this
  refine ⟨_, cap, rfl, k4, ?_⟩
  simp only [SR]
  exact ⟨trivial, _, n0, cap, _, _, hv, rfl, by omega, by omega, by omega, fun hne => ⟨rfl, by rw [if_neg j2]⟩⟩
theorem Zdg {d t id : Nat} {cs : List D} {ty pos aft g} (ht : st t = .own id (.sl true 1 cs)) (hd : n d = true) :
  Zg P n ⟨some d, .move (.tmp t), ty, pos, aft, g⟩ nid st [t] [(d, .sub t id [] 1 0 cs.length)] := by
 intro X st' hs hX f a w hn hrep K Q hK
 obtain ⟨ρ, L, hr⟩ := hrep
 subst hn
 have ht' := (hs t (by simp)).trans ht
 have hi' := hr.ids t
 rw [ht'] at hi'
 obtain ⟨us, L0, L1, q1, q2, q3⟩ := hr.partSl (path := []) ht' rfl
 have hl := q2.length
 have ev : tmp a t = ρ id [] := by
  have := hr.slots t
  rw [ht'] at this
  simp only [SR, RD] at this
  exact this.1
 obtain ⟨a0, c0, e0, e2, hsr⟩ := Zpa (F := f.F) (ρ := ρ) (x := t) (id := id) (path := []) q1 rfl hl (Nat.zero_le _) (Nat.le_refl _)
 have e1 : Value.slice (if c0 = 0 then a0 else a0.map (·.add (0 * 1))) (cs.length - 0) (c0 - 0) = tmp a t := by
  rw [ev, e0]
  cases a0 with
  | none => simp
  | some b => simp [Vi]
 rw [e1] at hsr
 exact wV_ (u := tmp a t) (w' := w) rfl (hr.done_light hK hd _ w (Zy.refl w) hsr w9)
theorem Zxp {x : AV} {id sz : Nat} {cs : List D} (h : hdr x = hdr (.own id (.sl true sz cs))) : ∃ cs', x = .own id (.sl true sz cs') /\ cs'.length = cs.length := by
 by_cases hx : ∃ id' sz' cs', x = .own id' (.sl true sz' cs')
 ·obtain ⟨id', sz', cs', rfl⟩ := hx
  simp only [hdr, AV.own.injEq, D.sl.injEq, true_and] at h
  obtain ⟨rfl, rfl, h⟩ := h
  exact ⟨cs', rfl, by simpa using congrArg List.length h⟩
 ·by_cases hp : ∃ i ds, x = .own i (.pt true ds)
  ·obtain ⟨i, ds, rfl⟩ := hp
   simp [hdr] at h
  ·have e : hdr x = x := by
    unfold hdr
    split
    ·exact absurd ⟨_, _, _, rfl⟩ hx
    ·exact absurd ⟨_, _, rfl⟩ hp
    ·rfl
   rw [e] at h
   exact absurd ⟨_, _, _, h⟩ hx
theorem Zxq {x : AV} {id sz k : Nat} {cs : List D} {d : D} (h : x = .own id (.sl true sz cs)) : hdr (.own id (.sl true sz (cs.set k d))) = hdr x := by
 subst h; simp [hdr]
theorem Un {d t id : Nat} {cs : List D} {ty pos aft g} (ht : st t = .own id (.sl true 1 cs)) (hd : n d = true) :
  Zqk P n ⟨some d, .move (.tmp t), ty, pos, aft, g⟩ nid st [t] [] [(d, .sub t id [] 1 0 cs.length)] := by
 intro X st' _ hw hX
 obtain ⟨cs', h1, h2⟩ := Zxp (by rw [hw t (by simp), ht])
 have := Zdg (P := P) (n := n) (nid := nid) (st := st') (ty := ty) (pos := pos) (aft := aft) (g := g) h1 hd X st' (fun _ _ => rfl) hX
 rw [h2] at this
 exact this
theorem Zfc {α : Type} {g0 : α -> D} {A : List α} {d t id l h : Nat} {T : TypeId} {lo hi : Option Operand} {r1 r2 : List Nat} {ty pos aft g} [Zu P T 1] (ht : st t = .own id (.sl true 1 (A.map g0))) (hlo : BdL st lo r1 l) (hhi : BdH st A.length hi r2 h) (h1 : l <= h) (h2 : h <= A.length) (hd : n d = true) :
  Zg P n ⟨some d, .slice T (.tmp t) lo hi none, ty, pos, aft, g⟩ nid st (t :: (r1 ++ r2)) [(d, .sub t id [] 1 l (h - l))] := by
 intro X st' hs hX f a w hn hrep K Q hK
 obtain ⟨ρ, L, hr⟩ := hrep
 subst hn
 have ht' := (hs t (by simp)).trans ht
 have hi' := hr.ids t
 rw [ht'] at hi'
 obtain ⟨us, L0, L1, q1, q2, q3⟩ := hr.partSl (path := []) ht' rfl
 have hl := q2.length
 rw [List.length_map] at hl
 have ev : a.eval (.tmp t) = ρ id [] := by
  have := hr.slots t
  rw [ht'] at this
  simp only [SR, RD] at this
  exact this.1
 obtain ⟨a0, c0, e0, e2, hsr⟩ := Zpa (F := f.F) (ρ := ρ) (x := t) (id := id) (path := []) q1 rfl hl h1 h2
 have k1 := (hlo.agree fun s hs' => hs s q9).eval hr
 have k2 := (hhi.agree fun s hs' => hs s q9).eval hr
 refine wV_ (u := .slice (if c0 = l then a0 else a0.map (·.add (l * 1))) (h - l) (c0 - l)) (w' := w) ?_ (hr.done_light hK hd _ w (Zy.refl w) hsr w9)
 simp only [execOp, ev, e0, Option.map_none, Sem.run_bind, Jf w a0 A.length c0 l h _ _ k1 k2 h1 h2 e2, Result.andThen_ok, Sem.run_pure]
theorem Zg0 {α : Type} {g0 : α -> D} {A : List α} {d t x id l h : Nat} {path : List Nat} {dd : D} {T : TypeId} {lo hi : Option Operand} {r1 r2 : List Nat} {ty pos aft g} [Zu P T 1] (ht : st t = .als x id path) (hx : st x = .own id dd) (hn' : dd.nav path = some (.sl true 1 (A.map g0)))
  (hlo : BdL st lo r1 l) (hhi : BdH st A.length hi r2 h) (h1 : l <= h) (h2 : h <= A.length) (hd : n d = true) :
  Zg P n ⟨some d, .slice T (.tmp t) lo hi none, ty, pos, aft, g⟩ nid st (t :: x :: (r1 ++ r2)) [(d, .sub x id path 1 l (h - l))] := by
 intro X st' hs hX f a w hn hrep K Q hK
 obtain ⟨ρ, L, hr⟩ := hrep
 subst hn
 have ht' := (hs t (by simp)).trans ht
 have hx' := (hs x (by simp)).trans hx
 have hi' := hr.ids t
 rw [ht'] at hi'
 obtain ⟨us, L0, L1, q1, q2, q3⟩ := hr.partSl hx' hn'
 have hl := q2.length
 rw [List.length_map] at hl
 have ev : a.eval (.tmp t) = ρ id path := by
  have := hr.slots t
  rw [ht'] at this
  simp only [SR] at this
  exact this.2
 obtain ⟨a0, c0, e0, e2, hsr⟩ := Zpa (F := f.F) (ρ := ρ) (x := x) (id := id) (path := path) q1 rfl hl h1 h2
 have k1 := (hlo.agree fun s hs' => hs s q9).eval hr
 have k2 := (hhi.agree fun s hs' => hs s q9).eval hr
 refine wV_ (u := .slice (if c0 = l then a0 else a0.map (·.add (l * 1))) (h - l) (c0 - l)) (w' := w) ?_ (hr.done_light hK hd _ w (Zy.refl w) hsr w9)
 simp only [execOp, ev, e0, Option.map_none, Sem.run_bind, Jf w a0 A.length c0 l h _ _ k1 k2 h1 h2 e2, Result.andThen_ok, Sem.run_pure]
theorem U3.cut {α : Type} {g0 : α -> D} {A : List α} {t x id lo m : Nat} {path : List Nat} {d : D} (h1 : st t = .sub x id path 1 lo m) (h2 : st x = .own id d) (h3 : d.nav path = some (.sl true 1 (A.map g0))) : U3 st (.tmp t) [t, x] 1 (((A.drop lo).take m).map g0) := by
 rw [<- Zqq]
 exact U3.sub h1 h2 h3
theorem Zb1 {F : Nat -> Prop} {w : World} {α : Type} {enc : α -> Value} (h1 : ∀ x, (enc x).oneCell' = true) : ∀ (l : List α) (k : Nat) (r : Rho) (us : List Value) (L : List Nat), RDs F w (l.map fun x => D.lit (enc x)) k r us L ↔ us = l.map enc /\ L = []
 | [], k, r, us, L => by simp [RDs]
 | x :: l, k, r, us, L => by
  simp only [List.map_cons, RDs, RD]
  constructor
  ·rintro ⟨u, us', L1, L2, rfl, rfl, ⟨rfl, _, rfl⟩, h⟩
   obtain ⟨rfl, rfl⟩ := (Zb1 h1 l (k + 1) r us' L2).1 h
   exact ⟨rfl, rfl⟩
  ·rintro ⟨rfl, rfl⟩
   exact ⟨enc x, _, [], [], rfl, rfl, ⟨rfl, h1 x, rfl⟩, (Zb1 h1 l (k + 1) r _ []).2 ⟨rfl, rfl⟩⟩
open Go.Sort in
theorem Zxr {α : Type} [Inhabited α] {enc : α -> Value} (h1 : ∀ x, (enc x).oneCell' = true) {K : FuncId} {l s : List α} (hlen : s.length = l.length)
  (hc : ∀ (blk off cap : Nat) (w : World), Holds enc w blk off l.toArray -> blk < w.heap.size -> Calls P K #[.slice (some ⟨blk, off, none⟩) l.length cap] w fun e w' => e = .returned (.tuple #[]) /\ ∃ n os, w' = grow (putRow enc (Go.Sort.ahead w n) blk off s.toArray) os)
  (hn : ∀ (p : Option Addr) (cap : Nat) (w : World), Calls P K #[.slice p 0 cap] w fun e w' => e = .returned (.tuple #[]) /\ w' = w) :
  Zj P K [.io (.sl true 1 (l.map fun x => D.lit (enc x)))] [] [.sl true 1 (s.map fun x => D.lit (enc x))] := by
 intro w vs M F hF hargs hnd hM
 simp only [Xx, Zo0, RD] at hargs
 obtain ⟨u, us', L1, L2, rfl, rfl, ⟨r, hu, us, L0, L1, rfl, hrow, hus⟩, rfl, rfl⟩ := hargs
 obtain ⟨rfl, rfl⟩ := (Zb1 h1 _ _ _ _ _).1 hus
 rcases hrow with ⟨rfl, e1, rfl⟩ | ⟨g, o, m, cap, cur, e, rfl, k2, k3, k4, k5, k6, k7, rfl⟩
 ·have hl0 : l = [] := by simpa using e1
  subst hl0
  have hs0 : s = [] := List.eq_nil_of_length_eq_zero hlen
  subst hs0
  refine (hn none 0 w).mono ?_
  rintro e w' ⟨rfl, rfl⟩
  refine ⟨[], [], [], rfl, Zy.refl _, by simp [VRs], ?_, by simp, by simp⟩
  simp only [Xg]
  refine ⟨_, [], .sl true 1 [], [], fun _ => .slice none 0 0, [], [], rfl, rfl, rfl, ?_, rfl, rfl⟩
  simp only [RD]
  exact ⟨trivial, [], [], [], rfl, .inl ⟨rfl, rfl, rfl⟩, by simp [RDs]⟩
 ·rw [List.length_map] at k3
  have hm : m = l.length := by omega
  subst hm
  have hg : g < w.heap.size := hM g (by simp)
  have hH : Holds enc w g o l.toArray := by
   intro j hj
   simp only [List.size_toArray] at hj
   constructor
   ·exact Ji k2 k7 (by simp [hj])
   ·simp [World.frozen?, k2]
  refine (hc g o cap w hH hg).mono ?_
  rintro e' w' ⟨rfl, q, os, rfl⟩
  have hb : (grow (putRow enc (Go.Sort.ahead w q) g o s.toArray) os).heap[g]? = some (.cells (putCells enc o s.toArray cur) e (0, 0)) := by
   rw [heap_grow_old _ _ (by simpa [putRow, mapBlock, Go.Sort.ahead] using hg)]
   simp [putRow, mapBlock, Go.Sort.ahead, Array.getElem?_modify, k2, onCells]
  refine ⟨[], [], [g], rfl, ⟨rfl, rfl, rfl, ?_, fun b hb hbM => ?_, by simp [grow, putRow, mapBlock, Go.Sort.ahead]⟩, by simp [VRs], ?_, by simp, ?_⟩
  ·simp [grow, putRow, mapBlock, Go.Sort.ahead]
  ·unfold Vh
   rw [heap_grow_old _ _ (by simpa [putRow, mapBlock, Go.Sort.ahead] using hb)]
   have : g ≠ b := by rintro rfl; exact hbM (by simp)
   simp [putRow, mapBlock, Go.Sort.ahead, Array.getElem?_modify, this]
  ·simp only [Xg]
   refine ⟨_, [], _, [], fun _ => .slice (some ⟨g, o, none⟩) l.length cap, [g], [], rfl, rfl, rfl, ?_, rfl, rfl⟩
   simp only [RD]
   refine ⟨trivial, s.map enc, [g], [], rfl, .inr ⟨g, o, l.length, cap, _, e, rfl, hb, by simp [hlen], k4, k5, by simp [putCells]; omega, ?_, rfl⟩, (Zb1 h1 _ _ _ _ _).2 ⟨rfl, rfl⟩⟩
   have hsz : o + cap <= cur.size := by omega
   apply List.ext_getElem?
   intro j
   rw [List.getElem?_take]
   by_cases hj : j < l.length
   ·rw [if_pos j2, List.getElem?_drop]
    simp only [putCells, Array.getElem?_toList, Array.getElem?_mapIdx, List.getElem?_map]
    rw [Array.getElem?_eq_getElem j2, List.getElem?_eq_getElem j2]
    simp [hlen, hj, show j < s.length by omega]
   ·rw [if_neg j2, List.getElem?_eq_none u4]
  ·intro b hb
   simp only [List.nil_append, List.mem_singleton] at hb
   subst hb
   refine ⟨?_, .inl (by simp)⟩
   simp [grow, putRow, mapBlock, Go.Sort.ahead]
   omega
end
section
variable {P : Program} {n : NN} {nid : Nat} {st : Nat -> AV} {f : Fr} {X : Nat -> Prop} {a : Act} {w : World} {ρ : Nat -> Rho} {L : Nat -> List Nat} {M : List Nat}
def Zsb : List Nat -> List D -> List (List D)
 | [], _ => []
 | s :: szs, ds => ds.take s :: Zsb szs (ds.drop s)
def Q0 : Nat -> Nat -> List (Nat × Operand) -> List (Option Operand)
 | 0, _, _ => []
 | k + 1, i, [] => none :: Q0 k (i + 1) []
 | k + 1, i, (j, x) :: l => if j == i then some x :: Q0 k (i + 1) l else none :: Q0 k (i + 1) ((j, x) :: l)
def Y9 {α : Type} : List (Option α) -> Nat -> List (Nat × α)
 | [], _ => []
 | some v :: os, i => (i, v) :: Y9 os (i + 1)
 | none :: os, i => Y9 os (i + 1)
def Ua : List (Option Value) -> List Nat -> List Value -> List Value
 | some v :: os, s :: szs, r => v.cells.toList ++ Ua os szs (r.drop s)
 | none :: os, s :: szs, r => r.take s ++ Ua os szs (r.drop s)
 | _, _, r => r
theorem Hc {α β : Type} (g : α -> β) : ∀ (os : List (Option α)) (i : Nat), (Y9 os i).map (fun p => (p.1, g p.2)) = Y9 (os.map (Option.map g)) i
 | [], _ => rfl
 | some v :: os, i => by simp only [Y9, List.map_cons, Option.map_some, Hc g os (i + 1)]
 | none :: os, i => by simp only [Y9, List.map_cons, Option.map_none, Hc g os (i + 1)]
theorem Zg1 (place : Nat -> Option (Nat × Nat)) : ∀ (os : List (Option Value)) (szs : List Nat) (i off : Nat) (init : Array Value), os.length = szs.length -> (∀ j s, szs[j]? = some s -> place (i + j) = some (off + (szs.take j).sum, s)) ->
  (∀ (j : Nat) (v : Value) (s : Nat), os[j]? = some (some v) -> szs[j]? = some s -> v.cells.toList.length = s) -> off + szs.sum <= init.size -> Instr.fill place init (Y9 os i) = some (init.toList.take off ++ Ua os szs (init.toList.drop off)).toArray
 | [], [], i, off, init, _, _, _, _ => by simp [Y9, Ua, Instr.fill]
 | [], _ :: _, _, _, _, h, _, _, _ => by simp at h
 | _ :: _, [], _, _, _, h, _, _, _ => by simp at h
 | none :: os, s :: szs, i, off, init, hl, hp, hc, hs => by
  simp only [List.sum_cons] at hs
  simp only [Y9, Ua]
  rw [Zg1 place os szs (i + 1) (off + s) init (by simpa using hl) (fun j s' hj => by
   have := hp (j + 1) s' (by simpa using hj)
   rw [show i + 1 + j = i + (j + 1) by omega, this]
   simp only [List.take_succ_cons, List.sum_cons]
   congr 2
   omega) (fun j v s' h1 h2 => hc (j + 1) v s' (by simpa using h1) (by simpa using h2)) j2]
  congr 2
  rw [List.take_add, List.append_assoc, List.drop_drop]
 | some v :: os, s :: szs, i, off, init, hl, hp, hc, hs => by
  have h0 := hp 0 s rfl
  have hv := hc 0 v s rfl rfl
  simp only [Nat.add_zero, List.take_zero, List.sum_nil] at h0
  simp only [List.sum_cons] at hs
  simp only [Y9, Ua, Instr.fill, h0]
  have hsz : v.cells.size = v.cells.toList.length := by simp
  rw [if_neg (by rw [hsz, hv]; simp only [ne_eq, not_true_eq_false, decide_false, Bool.false_or, decide_eq_true_eq]; omega)]
  have hf : (v.cells.zipIdx.foldl (fun cs (x : Value × Nat) => cs.setIfInBounds (off + x.2) x.1) init) = (init.toList.take off ++ (v.cells.toList ++ init.toList.drop (off + v.cells.toList.length))).toArray := by
   rw [<- Array.foldl_toList, Array.toList_zipIdx]
   have := Ha off v.cells.toList 0 init j2
   simpa using this
  rw [hf]
  generalize hcc : v.cells.toList = c at *
  subst hv
  have hX : (init.toList.take off).length = off := by rw [List.length_take, Array.length_toList]; omega
  generalize hI : init.toList.take off = X0 at *
  rw [List.drop_drop]
  generalize hY : init.toList.drop (off + c.length) = Y0 at *
  have hYl : Y0.length = init.size - (off + c.length) := by rw [<- hY, List.length_drop, Array.length_toList]
  rw [Zg1 place os szs (i + 1) (off + c.length) _ (by simpa using hl) (fun j s' hj => by
   have := hp (j + 1) s' (by simpa using hj)
   rw [show i + 1 + j = i + (j + 1) by omega, this]
   simp only [List.take_succ_cons, List.sum_cons]
   congr 2
   omega) (fun j v s' h1 h2 => hc (j + 1) v s' (by simpa using h1) (by simpa using h2)) (by simp only [List.size_toArray, List.length_append, hX, hYl]; omega)]
  have e1 : (X0 ++ (c ++ Y0)).take (off + c.length) = X0 ++ c := by
   rw [<- List.append_assoc]
   exact List.take_left' (by rw [List.length_append, hX])
  have e2 : (X0 ++ (c ++ Y0)).drop (off + c.length) = Y0 := by
   rw [<- List.append_assoc]
   exact List.drop_left' (by rw [List.length_append, hX])
  simp only [e1, e2, List.append_assoc]
theorem V0.cut : ∀ {us : List Value} {ds : List D} (s : Nat), V0 us ds -> V0 (us.take s) (ds.take s) /\ V0 (us.drop s) (ds.drop s)
 | _, _, 0, h => by simpa using ⟨V0.nil, h⟩
 | _, _, s + 1, .nil => ⟨.nil, .nil⟩
 | _, _, s + 1, .cons h1 h2 => ⟨.cons h1 (V0.cut s h2).1, (V0.cut s h2).2⟩
inductive Zt : (Nat -> AV) -> List (Option Operand) -> List (List D) -> List Nat -> List (List D) -> List (Nat × AV) -> Prop
 | nil {s0} : Zt s0 [] [] [] [] []
 | given {s0 x xs z zs rd rds d ds up ups} : Qg s0 x rd d up -> d.length = z.length -> Zt (Zn s0 up) xs zs rds ds ups -> Zt s0 (some x :: xs) (z :: zs) (rd ++ rds) (d :: ds) (up ++ ups)
 | zero {s0 xs z zs rds ds ups} : Zt s0 xs zs rds ds ups -> Zt s0 (none :: xs) (z :: zs) rds (z :: ds) ups
theorem Zt.agree : ∀ {st st' : Nat -> AV} {xs : List (Option Operand)} {zs : List (List D)} {rd : List Nat} {ds : List (List D)} {up : List (Nat × AV)}, Zt st xs zs rd ds up -> (∀ s ∈ rd, st' s = st s) -> Zt st' xs zs rd ds up
 | _, _, _, _, _, _, _, .nil, _ => .nil
 | _, _, _, _, _, _, _, .given h1 h2 h3, hs => .given (h1.agree fun s hs' => hs s q9) h2 (Zt.agree h3 fun s hs' => Xa _ _ (hs s q9))
 | _, _, _, _, _, _, _, .zero h, hs => .zero (Zt.agree h hs)
theorem Xk.givesO : ∀ {st : Nat -> AV} {L : Nat -> List Nat} {M : List Nat}, Xk f X st a w ρ L M -> ∀ {os : List (Option Operand)} {zs : List (List D)} {rd : List Nat} {dss : List (List D)} {up : List (Nat × AV)}, Zt st os zs rd dss up -> ∀ (k : Nat) (zc : List Value), V0 zc zs.flatten ->
  ∃ r L' M1, Xk f X (Zn st up) a w ρ L' (M ++ M1) /\ RDs f.F w dss.flatten k r (Ua (os.map (Option.map a.eval)) (zs.map List.length) zc) M1 /\ (∀ (j : Nat) (v : Value) (s : Nat), (os.map (Option.map a.eval))[j]? = some (some v) -> (zs.map List.length)[j]? = some s -> v.cells.toList.length = s)
 | st, L, M, h, _, _, _, _, _, .nil, k, zc, hz => by
  simp only [List.flatten_nil] at hz
  cases hz
  exact ⟨fun _ => undef, L, [], by simpa [Zn] using h, by simp [RDs, Ua], by simp⟩
 | st, L, M, h, _, _, _, _, _, .given (x := x) (xs := xs) (z := z) (zs := zs) (d := d) (ds := dss) h1 h2 h3, k, zc, hz => by
  obtain ⟨r1, L1, M1, us, hm1, hus, hr1⟩ := h.giveV h1
  have hz' := (hz.cut z.length).2
  simp only [List.flatten_cons, List.drop_left] at hz'
  obtain ⟨r2, L2, M2, hm2, hr2, hl2⟩ := Xk.givesO hm1 h3 (k + d.length) _ hz'
  have hlen := hr1.length
  refine ⟨(fun π => match π with | [] => undef | j :: q => if j < k + d.length then r1 ((j - k) :: q) else r2 (j :: q)), L2, M1 ++ M2, ?_, ?_, ?_⟩
  ·rw [Zx, <- List.append_assoc]; exact hm2
  ·simp only [List.map_cons, List.flatten_cons, Option.map_some, Ua, hus]
   have e1 := RDs.unshift d 0 k r1 us M1 hr1
   rw [Nat.zero_add] at e1
   refine RDs.append d dss.flatten k _ us _ M1 M2 ?_ ?_
   ·exact Zb0 e1 fun j hj hjl => by
     funext π
     simp [Rho.at, show j < k + d.length from hjl]
   ·exact RDs.rho _ _ r2 _ _ _ hr2 fun j hj => by
     funext π
     simp [Rho.at, show ¬ j < k + d.length from by omega]
  ·intro j v s hj hs
   cases j with
   | zero =>
    simp only [List.map_cons, List.getElem?_cons_zero, Option.map_some, Option.some.injEq] at hj hs
    rw [<- hj, hus, hlen, h2, hs]
   | succ j => exact hl2 j v s (by simpa using hj) (by simpa using hs)
 | st, L, M, h, _, _, _, _, _, .zero (xs := xs) (z := z) (zs := zs) (ds := dss) h3, k, zc, hz => by
  have hz1 := (hz.cut z.length).1
  have hz' := (hz.cut z.length).2
  simp only [List.flatten_cons, List.drop_left, List.take_left] at hz' hz1
  obtain ⟨r2, L2, M2, hm2, hr2, hl2⟩ := Xk.givesO h h3 (k + z.length) _ hz'
  obtain ⟨r1, hr1⟩ := V0.rds (F := f.F) (w := w) 0 hz1
  refine ⟨(fun π => match π with | [] => undef | j :: q => if j < k + z.length then r1 ((j - k) :: q) else r2 (j :: q)), L2, M2, hm2, ?_, ?_⟩
  ·simp only [List.map_cons, List.flatten_cons, Option.map_none, Ua]
   have e1 := RDs.unshift z 0 k r1 _ [] hr1
   rw [Nat.zero_add] at e1
   refine RDs.append z dss.flatten k _ _ _ [] M2 ?_ ?_
   ·exact Zb0 e1 fun j hj hjl => by
     funext π
     simp [Rho.at, show j < k + z.length from hjl]
   ·exact RDs.rho _ _ r2 _ _ _ hr2 fun j hj => by
     funext π
     simp [Rho.at, show ¬ j < k + z.length from by omega]
  ·intro j v s hj hs
   cases j with
   | zero => simp at hj
   | succ j => exact hl2 j v s (by simpa using hj) (by simpa using hs)
theorem Zt.length : ∀ {st : Nat -> AV} {xs : List (Option Operand)} {zs : List (List D)} {rd : List Nat} {ds : List (List D)} {up : List (Nat × AV)}, Zt st xs zs rd ds up -> xs.length = zs.length
 | _, _, _, _, _, _, .nil => rfl
 | _, _, _, _, _, _, .given _ _ h => by simp [Zt.length h]
 | _, _, _, _, _, _, .zero h => by simp [Zt.length h]
theorem Zm6 : ∀ (szs : List Nat) (ds : List D), szs.sum = ds.length -> (Zsb szs ds).map List.length = szs /\ (Zsb szs ds).flatten = ds
 | [], ds, h => by
  have : ds = [] := List.eq_nil_of_length_eq_zero (by simpa using h.symm)
  subst this
  exact ⟨rfl, rfl⟩
 | s :: szs, ds, h => by
  simp only [List.sum_cons] at h
  have h1 := Zm6 szs (ds.drop s) (by rw [List.length_drop]; omega)
  constructor
  ·simp only [Zsb, List.map_cons, h1.1, List.length_take]
   congr 1
   omega
  ·simp only [Zsb, List.flatten_cons, h1.2, List.take_append_drop]
theorem V0.len : ∀ {us : List Value} {ds : List D}, V0 us ds -> us.length = ds.length
 | _, _, .nil => rfl
 | _, _, .cons _ h => by simp [V0.len h]
theorem Zfd {d : Nat} {T : TypeId} {szs : List Nat} {zs : List D} {ps : Array (Nat × Operand)} {rd : List Nat} {dss : List (List D)} {up : List (Nat × AV)} {ty pos aft g} [hT : Um P T szs] [hZ : Xv P T zs] (h : Zt st (Q0 szs.length 0 ps.toList) (Zsb szs zs) rd dss up) (hp : Y9 (Q0 szs.length 0 ps.toList) 0 = ps.toList) (hd : n d = true) :
  Zg P n ⟨some d, .build T ps, ty, pos, aft, g⟩ nid st rd (up ++ [(d, .agg (dss.flatten.map AV.raw))]) := by
 intro X st' hs hX f a w hn hrep K Q hK
 obtain ⟨ρ, L, hr⟩ := hrep
 subst hn
 obtain ⟨z, fs, h1, h2, h3, h4⟩ := hT.out
 obtain ⟨i', z', g1, g2, g3⟩ := hZ.out
 obtain ⟨i, hi, hz⟩ := Option.map_eq_some_iff.1 h1
 have e0 : i' = i := by rw [hi] at g1; exact (Option.some.inj g1).symm
 subst e0
 have e0 : z' = z := by rw [hz] at g2; exact (Option.some.inj g2).symm
 subst e0
 have hzl := g3.len
 have hsum : szs.sum = zs.length := by rw [<- hzl, <- h4]; simp
 obtain ⟨c1, c2⟩ := Zm6 szs zs hsum
 obtain ⟨r, L', M1, hm, hv, hlen⟩ := hr.toM.givesO (h.agree hs) 0 z'.cells.toList (by rw [c2]; exact g3)
 rw [Zx] at hK
 rw [List.nil_append] at hm
 rw [c1] at hv hlen
 have hol : ((Q0 szs.length 0 ps.toList).map (Option.map a.eval)).length = szs.length := by
  rw [List.length_map, h.length]
  have := congrArg List.length c1
  simpa using this
 have hrun : (Instr.build T (ps.map fun (i, x) => (i, a.eval x))).run P w = .ok (.agg (Ua ((Q0 szs.length 0 ps.toList).map (Option.map a.eval)) szs z'.cells.toList).toArray) w := by
  refine run_build w T _ _ ?_
  unfold Program.built
  have hpp : (ps.map fun (i, x) => (i, a.eval x)).toList = Y9 ((Q0 szs.length 0 ps.toList).map (Option.map a.eval)) 0 := by
   rw [<- Hc, hp, Array.toList_map]
  simp only [hi, h2, hz, h3, hpp]
  have := Zg1 (fun k => (Jk szs 0).toArray[k]?) ((Q0 szs.length 0 ps.toList).map (Option.map a.eval)) szs 0 0 z'.cells hol (fun j s hj => by
   have := Hb szs 0 j _ hj
   rw [Nat.zero_add, List.getElem?_toArray, this]) hlen (by rw [h4]; omega)
  rw [this]
  simp
 refine wV_ (u := .agg (Ua ((Q0 szs.length 0 ps.toList).map (Option.map a.eval)) szs z'.cells.toList).toArray) (w' := w) ?_ (hm.put_raw (id := nid) (K := K) hK hd _ w [] (by simp) (Zy.refl w) M1 ?_ hm.nd (fun g hg => ⟨(hm.bound g hg).1, .inl hg⟩) ?_)
 ·simp only [execOp, Sem.run_bind]
  rw [hrun]
  rfl
 ·simp only [SR]
  exact ⟨_, rfl, Ks _ 0 r _ _ hv⟩
 ·simp only [AV.ids, J8]; simp
inductive Wx : List D -> List Int -> Prop
 | raw {l} : Wx (Ze l) l
 | nil : Wx [] []
 | cons {x cs l} : Wx cs l -> Wx (.lit (.int .i64 x) :: cs) (x :: l)
theorem Wx.eq : ∀ {cs : List D} {l : List Int}, Wx cs l -> cs = Ze l
 | _, _, .raw => rfl
 | _, _, .nil => rfl
 | _, _, .cons h => by rw [h.eq]; rfl
theorem Hd {d : Nat} {T : TypeId} {s x : Operand} {rd rd2 : List Nat} {cs cs2 : List D} {l m : List Int} {up : List (Nat × AV)} {ty pos aft g} [hT : Zu P T 1] (h : Vw st s rd (.sl true 1 cs) up) (hl : Wx cs l) (hv : U3 (Zn st up) x rd2 1 cs2) (hm : Wx cs2 m) (hb : l.length + m.length <= 1099511627776) (hd : n d = true) :
  Zg P n ⟨some d, .call ⟨.builtin .append, #[s, x], #[T, T]⟩, ty, pos, aft, g⟩ nid st (rd ++ rd2) (up ++ [(d, .own nid (.sl true 1 (Ze (l ++ m))))]) := by
 rw [hl.eq] at h
 rw [hm.eq] at hv
 exact U1 h hv hb hd
inductive Zt9 : List D -> List (List Int) -> Prop
 | raw {Q : List (List Int)} : Zt9 (LL Q) Q
 | nil : Zt9 [] []
theorem Zt9.eq {cs : List D} {L : List (List Int)} (h : Zt9 cs L) : cs = LL L := by cases h <;> rfl
theorem Za7 {d : Nat} {T : TypeId} {s x : Operand} {rd rd2 : List Nat} {hs cs : List D} {L0 : List (List Int)} {l : List Int} {up up2 : List (Nat × AV)} {ty pos aft g} [hT : Zu P T 1] (h : Vw st s rd (.sl true 1 hs) up) (hl : Zt9 hs L0) (hv : Vw (Zn st up) x rd2 (.sl true 1 [.sl true 1 cs]) up2) (hc : Wx cs l) (hb : L0.length <= 1099511627000) (hd : n d = true) :
  Zg P n ⟨some d, .call ⟨.builtin .append, #[s, x], #[T, T]⟩, ty, pos, aft, g⟩ nid st (rd ++ rd2) ((up ++ up2) ++ [(d, .own nid (.sl true 1 (LL (L0 ++ [l]))))]) := by
 rw [hl.eq] at h
 rw [hc.eq] at hv
 exact Ki h hv hb hd
end
end Go.Pv
namespace Go.Pv
open Go.RowKit
section
variable {P : Program} {n : NN} {nid : Nat} {st : Nat -> AV} {f : Fr} {X : Nat -> Prop} {a : Act} {w : World} {ρ : Nat -> Rho} {L : Nat -> List Nat} {M : List Nat}
inductive Zap (st : Nat -> AV) : Operand -> List Nat -> AV -> Prop
 | root {t id cs} : st t = .own id (.pt true cs) -> Zap st (.tmp t) [t] (.ptr t id [] 0)
 | ptr {t x id p o} : st t = .ptr x id p o -> Zap st (.tmp t) [t] (.ptr x id p o)
 | sptr {t cs o} : st t = .sptr cs o -> Zap st (.tmp t) [t] (.sptr cs o)
theorem Zap.agree {st' : Nat -> AV} {x : Operand} {rd : List Nat} {av : AV} (h : Zap st x rd av) (hs : ∀ s ∈ rd, st' s = st s) : Zap st' x rd av := by
 cases h with
 | root h => exact .root ((hs _ (by simp)).trans h)
 | ptr h => exact .ptr ((hs _ (by simp)).trans h)
 | sptr h => exact .sptr ((hs _ (by simp)).trans h)
theorem Zap.sr (h : Ve f X st a w ρ L) {x : Operand} {rd : List Nat} {av : AV} (hx : Zap st x rd av) : SR f.F w ρ av (a.eval x) [] /\ (∀ i ∈ av.ids, X i) /\ ∃ b, a.eval x = .pointer (some b) := by
 cases hx with
 | @root t id cs ht =>
  have h1 := h.slots t
  have hi := h.ids t
  rw [ht] at h1 hi
  simp only [SR, RD] at h1
  obtain ⟨e, g, us, L1, ety, e2, _⟩ := h1
  have ev : a.eval (.tmp t) = .pointer (some ⟨g, 0, none⟩) := e2
  refine ⟨?_, by simpa [AV.ids] using hi, _, ev⟩
  simp only [SR]
  refine ⟨trivial, ⟨g, 0, none⟩, ?_, ?_⟩
  ·rw [<- e, e2]; rfl
  ·rw [ev, Vi]
 | @ptr t x id p o ht =>
  have h1 := h.slots t
  have hi := h.ids t
  rw [ht] at h1 hi
  simp only [SR] at h1
  obtain ⟨_, b, hb, e0⟩ := h1
  exact ⟨by simp only [SR]; exact ⟨trivial, b, hb, e0⟩, by simpa [AV.ids] using hi, _, e0⟩
 | @sptr t cs o ht =>
  have h1 := h.slots t
  rw [ht] at h1
  simp only [SR] at h1
  obtain ⟨_, b, us, r, e0, h2⟩ := h1
  exact ⟨by simp only [SR]; exact ⟨trivial, b, us, r, e0, h2⟩, by simp [AV.ids], _, e0⟩
theorem Zi5 {d : Nat} {x : Operand} {rd : List Nat} {av : AV} {ty pos aft g} (hx : Zap st x rd av) (hd : n d = true) : Zg P n ⟨some d, .nilCheck x, ty, pos, aft, g⟩ nid st rd [(d, av)] := by
 intro X st' hs hX f a w hn hrep K Q hK
 obtain ⟨ρ, L, hr⟩ := hrep
 subst hn
 obtain ⟨h1, h2, b, h3⟩ := (hx.agree hs).sr hr
 refine wV_ (u := a.eval x) (w' := w) ?_ (hr.done_light hK hd _ w (Zy.refl w) h1 h2)
 simp only [execOp, h3]
 rfl
inductive Qj (st : Nat -> AV) : List Operand -> List Nat -> List AV -> Prop
 | nil : Qj st [] [] []
 | cons {x xs rd rds av l} : Zap st x rd av -> Qj st xs rds l -> Qj st (x :: xs) (rd ++ rds) (av :: l)
theorem Qj.agree : ∀ {st st' : Nat -> AV} {xs : List Operand} {rd : List Nat} {l : List AV}, Qj st xs rd l -> (∀ s ∈ rd, st' s = st s) -> Qj st' xs rd l
 | _, _, _, _, _, .nil, _ => .nil
 | _, _, _, _, _, .cons h1 h2, hs => .cons (h1.agree fun s hs' => hs s q9) (Qj.agree h2 fun s hs' => hs s q9)
theorem Qj.srs (h : Ve f X st a w ρ L) : ∀ {xs : List Operand} {rd : List Nat} {l : List AV}, Qj st xs rd l -> SRs f.F w ρ l (xs.map a.eval) [] /\ ∀ i ∈ AV.idss l, X i
 | _, _, _, .nil => by simp [SRs, AV.idss]
 | _, _, _, .cons h1 h2 => by
  obtain ⟨k1, k2, _⟩ := h1.sr h
  obtain ⟨k3, k4⟩ := Qj.srs h h2
  simp only [List.map_cons, SRs, AV.idss, List.mem_append]
  exact ⟨⟨_, _, [], [], rfl, rfl, k1, k3⟩, fun i hi => hi.elim (k2 i) (k4 i)⟩
theorem Zaq {d : Nat} {K : FuncId} {xs : Array Operand} {rd : List Nat} {l : List AV} {ty pos aft g} (hx : Qj st xs.toList rd l) (hd : n d = true) : Zg P n ⟨some d, .makeFunc (.func K) #[] xs, ty, pos, aft, g⟩ nid st rd [(d, .clo K l)] := by
 intro X st' hs hX f a w hn hrep Kk Q hK
 obtain ⟨ρ, L, hr⟩ := hrep
 subst hn
 obtain ⟨h1, h2⟩ := (hx.agree hs).srs hr
 refine wV_ (u := .func (.func K) #[] (xs.map a.eval)) (w' := w) ?_ (hr.done_light hK hd _ w (Zy.refl w) ?_ (by simpa [AV.ids] using h2))
 ·simp [execOp, Instr.makeFunc]
 ·simp only [SR]
  refine ⟨xs.toList.map a.eval, ?_, h1⟩
  congr 1
  apply Array.ext'
  rw [Array.toList_map]
theorem Wy {K : FuncId} [hK : Zs P K] {d : Option Nat} {x : Operand} {xs : Array Operand} {ts : Array TypeId} {ty pos aft g} (ev : Operand -> Value) (cb : Array Value) (hev : ev x = .func (.func K) #[] cb) (w : World) :
  (execOp ev ⟨d, .call ⟨.value x, xs, ts⟩, ty, pos, aft, g⟩).run P w = .ok (.enter K (xs.map ev ++ cb)) w := by
 obtain ⟨fn, h1, h2, h3⟩ := hK.out
 have h4 : ¬ fn.body = none := by cases h : fn.body <;> simp [h] at h2 ⊢
 have h3 : ¬ fn.name = "runtime.NumGoroutine" := by simpa using h3
 simp [execOp, resolve, hev, Deferred.ofValue, invoke, callFunc, h1, h3, h4]
theorem Zdh {F : Nat -> Prop} {w : World} : ∀ (args : List Arg) (us : List Value) (Lo : List Nat), Xg F w args us [] Lo -> Lo = []
 | [], _, _, h => by simp only [Xg] at h; exact h.2
 | .io _ :: args, us, Lo, h => by
  simp only [Xg] at h
  obtain ⟨u, us', d, ds', r, L1, L2, _, h2, _⟩ := h
  cases h2
 | .sh _ :: args, us, Lo, h => by
  simp only [Xg] at h
  obtain ⟨u, us', _, h⟩ := h
  exact Zdh args us' Lo h
 | .mv _ :: args, us, Lo, h => by
  simp only [Xg] at h
  obtain ⟨u, us', _, h⟩ := h
  exact Zdh args us' Lo h
theorem Zb2 {F : Nat -> Prop} {w : World} : ∀ {a1 a2 : List Arg} {v1 v2 : List Value} {M1 M2 : List Nat}, Xx F w a1 v1 M1 -> Xx F w a2 v2 M2 -> Xx F w (a1 ++ a2) (v1 ++ v2) (M1 ++ M2)
 | [], a2, v1, v2, M1, M2, h1, h2 => by
  simp only [Xx] at h1
  obtain ⟨rfl, rfl⟩ := h1
  simpa using h2
 | x :: a1, a2, v1, v2, M1, M2, h1, h2 => by
  simp only [Xx] at h1
  obtain ⟨u, us', L1, L2, rfl, rfl, h3, h4⟩ := h1
  simp only [List.cons_append, Xx]
  exact ⟨u, us' ++ v2, L1, L2 ++ M2, rfl, by rw [List.append_assoc], h3, Zb2 h4 h2⟩
theorem Zjp {F F' : Nat -> Prop} {w : World} (hF : ∀ g, F g -> F' g) : ∀ {cs : List D} {k : Nat} {r : Rho} {us : List Value}, RDs F w cs k r us [] -> Xx F' w (cs.map fun c => .sh (.one c)) us []
 | [], _, _, _, h => by simp only [RDs] at h; simp [Xx, h.1]
 | c :: cs, k, r, us, h => by
  simp only [RDs] at h
  obtain ⟨u, us', L1, L2, rfl, e, h1, h2⟩ := h
  have e1 : L1 = [] := (List.append_eq_nil_iff.1 e.symm).1
  have e2 : L2 = [] := (List.append_eq_nil_iff.1 e.symm).2
  subst e1 e2
  simp only [List.map_cons, Xx, Zo0]
  exact ⟨u, us', [], [], rfl, rfl, ⟨rfl, _, RD.same hF (fun _ _ => rfl) c _ u [] h1 (by simp)⟩, Zjp hF h2⟩
theorem Zar {d t : Nat} {K : FuncId} {xs : Array Operand} {ts : Array TypeId} {full : List Arg} {rs : List V} {cs : List D} {rd : List Nat} {ty pos aft g} [Zs P K] (hc : Zj P K full rs []) (ht : st t = .c (.fn K cs)) (he : full.drop xs.toList.length = cs.map fun c => .sh (.one c))
  (hm : Xr st xs.toList (full.take xs.toList.length) [] []) (hr : Va st xs.toList (full.take xs.toList.length) rd) (hd : n d = true) :
  Zg P n ⟨some d, .call ⟨.value (.tmp t), xs, ts⟩, ty, pos, aft, g⟩ nid st (t :: rd) [(d, Y3 nid rs)] := by
 intro X st' hs hX f a w hn hrep Kk Q hK
 obtain ⟨ρ, L, h⟩ := hrep
 subst hn
 have hm' := hm.agree (st' := st') fun s hs' => by simp at hs'
 obtain ⟨L', M1, h1, h2⟩ := h.toM.moves hm'
 rw [List.nil_append] at h1
 have h3 := Hx (rd := []) h1 h2 (hr.agree (st' := st') fun s hs' => hs s q9)
 have h4 := h1.rep.slots t
 rw [show Zn st' [] t = st' t from rfl, (hs t (by simp)).trans ht] at h4
 simp only [SR, RD] at h4
 obtain ⟨eL, r, _, us, e0, hus⟩ := h4
 refine V6 (Wy (x := .tmp t) a.eval us.toArray e0 w) ?_
 have e : xs.map a.eval ++ us.toArray = (xs.toList.map a.eval ++ us).toArray := by apply Array.ext'; simp
 rw [e]
 have hall := Zb2 h3 (Zjp (F' := Qx w M1) (fun _ hg => h1.free hg) hus)
 rw [<- he, List.take_append_drop, List.append_nil] at hall
 refine (hc w _ M1 (Qx w M1) (fun _ h => h) hall h1.nd (fun g hg => (h1.bound g hg).1)).mono ?_
 rintro e w' ⟨us', Lr, Lo, rfl, hk, hv, ho, hnd, hL⟩
 have hLo : Lo = [] := Zdh _ _ _ ho
 subst hLo
 rw [List.append_nil] at hnd hL
 exact ⟨_, rfl, h1.put_res hK hd hX us' w' hk Lr (hv.same (fun g hg => by cases hg.1) (fun g hg => by cases hg.1) (fun _ _ => rfl)) hnd hL⟩
end
end Go.Pv
namespace Go.Pv
section
variable {P : Program} {n : NN} {nid : Nat} {st : Nat -> AV}
theorem Yk {d : Nat} {x y : Operand} {ts : Array TypeId} {a b : Int} {ty pos aft g} (hx : Lit st x (.int .i64 a)) (hy : Lit st y (.int .i64 b)) (hd : n d = true) :
  Zg P n ⟨some d, .call ⟨.builtin .min, #[x, y], ts⟩, ty, pos, aft, g⟩ nid st (Z5 x ++ Z5 y) [(d, .c (.lit (.int .i64 (min a b))))] := by
 have := Vz (P := P) (n := n) (nid := nid) (st := st) (o := ⟨some d, .call ⟨.builtin .min, #[x, y], ts⟩, ty, pos, aft, g⟩) (d := d) (u := .int .i64 (min a b)) [(x, .int .i64 a), (y, .int .i64 b)] rfl hd rfl (by simpa using ⟨hx, hy⟩) (fun ev w hev => by
  have e1 := hev (x, .int .i64 a) (by simp)
  have e2 := hev (y, .int .i64 b) (by simp)
  simp only at e1 e2
  have e3 : (if b < a then b else a) = min a b := by omega
  simp [execOp, resolve, invoke, builtin, e1, e2, Builtin.min_, Builtin.min2, e3])
 simpa using this
theorem Zm7 {d : Nat} {x y : Operand} {ts : Array TypeId} {a b : Int} {ty pos aft g} (hx : Lit st x (.int .i64 a)) (hy : Lit st y (.int .i64 b)) (hd : n d = true) :
  Zg P n ⟨some d, .call ⟨.builtin .max, #[x, y], ts⟩, ty, pos, aft, g⟩ nid st (Z5 x ++ Z5 y) [(d, .c (.lit (.int .i64 (max a b))))] := by
 have := Vz (P := P) (n := n) (nid := nid) (st := st) (o := ⟨some d, .call ⟨.builtin .max, #[x, y], ts⟩, ty, pos, aft, g⟩) (d := d) (u := .int .i64 (max a b)) [(x, .int .i64 a), (y, .int .i64 b)] rfl hd rfl (by simpa using ⟨hx, hy⟩) (fun ev w hev => by
  have e1 := hev (x, .int .i64 a) (by simp)
  have e2 := hev (y, .int .i64 b) (by simp)
  simp only at e1 e2
  have e3 : (if a < b then b else a) = max a b := by omega
  simp [execOp, resolve, invoke, builtin, e1, e2, Builtin.max_, Builtin.max2, e3])
 simpa using this
end
end Go.Pv
namespace Go.Pv
section
variable {P : Program} {n : NN} {nid : Nat} {st : Nat -> AV}
theorem Zua {A : List (List Int)} {k : Nat} (h : k < A.length) : (D.sl true 1 (LL A)).put [k] .hole = .sl true 1 ((LL A).set k .hole) := by
 simp only [D.put, D.kids, LL, Zgt h, D.withKids]
theorem Zm8 {t x id k : Nat} {A : List (List Int)} (h : st t = .als x id [k]) (hx : st x = .own id (.sl true 1 (LL A))) (hk : k < A.length) :
  Vw st (.tmp t) [t, x] (.sl true 1 (Ze (A.getD k []))) [(x, .own id (.sl true 1 ((LL A).set k .hole)))] := by
 have := Vw.part (st := st) (t := t) (k := k) (path := []) h hx (Zo8 hk)
 rwa [Zua hk] at this
theorem Zub {A : List (List Int)} {k : Nat} {m : List Int} (h : k < A.length) : D.over ((LL A).set k .hole) k [.sl true 1 (Ze m)] = LL (A.set k m) := by
 simp only [D.over, List.set_set, LL, List.map_set]
theorem Zg2 {t tv x id idv k : Nat} {A : List (List Int)} {m : List Int} {T : TypeId} {ty pos aft g} [hT : Za3 P T 1] (h : st t = .ptr x id [] k) (hx : st x = .own id (.sl true 1 ((LL A).set k .hole))) (hv : st tv = .own idv (.sl true 1 (Ze m)))
  (h1 : (t == tv) = false) (h2 : (x == tv) = false) (hk : k < A.length) :
  Zg P n ⟨none, .store T (.tmp t) (.tmp tv), ty, pos, aft, g⟩ nid st ([tv] ++ [t, x]) ([(tv, .dead)] ++ [(x, .own nid (.sl true 1 (LL (A.set k m))))]) := by
 have h1 : t ≠ tv := by simpa using h1
 have h2 : x ≠ tv := by simpa using h2
 have := J1 (P := P) (n := n) (nid := nid) (T := T) (ty := ty) (pos := pos) (aft := aft) (g := g) (.one (.own hv)) (t := t) (x := x) (id := id) (off := k) (path := []) (dd := .sl true 1 ((LL A).set k .hole)) (d1 := .sl true 1 ((LL A).set k .hole)) (cs := (LL A).set k .hole)
  (by simp only [Zn]; rw [Zi _ _ _ _ h1]; exact h) (by simp only [Zn]; rw [Zi _ _ _ _ h2]; exact hx) rfl rfl (m := 1) rfl (by simp [LL]; omega) (by simp)
 rw [Zub hk] at this
 exact this
theorem Zdi {d t x id : Nat} {path : List Nat} {xi : Operand} {T : TypeId} {sz m nn : Nat} {k : IntKind} {j : Int} {ty pos aft g} [Zu P T sz] (h : st t = .sub x id path sz 0 nn)
  (hi : Lit st xi (.int k j)) (hj : j = (m : Int)) (hm : m < nn) (hd : n d = true) :
  Zg P n ⟨some d, .indexAddr T (.tmp t) xi, ty, pos, aft, g⟩ nid st (t :: Z5 xi) [(d, .ptr x id path (m * sz))] := by
 have := Zbk (P := P) (n := n) (nid := nid) (T := T) (sz := sz) (ty := ty) (pos := pos) (aft := aft) (g := g) h hi hj hm hd
 rwa [Nat.zero_add] at this
theorem Wa {d t id : Nat} {A : List (List Int)} {ty pos aft g} (ht : st t = .own id (.sl true 1 (LL A))) (hd : n d = true) :
  Zqk P n ⟨some d, .move (.tmp t), ty, pos, aft, g⟩ nid st [t] [] [(d, .sub t id [] 1 0 A.length)] := by
 have := Un (P := P) (n := n) (nid := nid) (ty := ty) (pos := pos) (aft := aft) (g := g) ht hd
 rwa [show (LL A).length = A.length by simp [LL]] at this
end
end Go.Pv
