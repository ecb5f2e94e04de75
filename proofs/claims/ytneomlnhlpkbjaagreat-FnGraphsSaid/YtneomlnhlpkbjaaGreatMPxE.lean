/- Contracting vertices, minimal graphs: the reference. No condition. -/
import Derived.Test.YtneomlnhlpkbjaaGreatMPvX
import Derived.Test.YtneomlnhlpkbjaaGreatMPwE
import Derived.Test.YtneomlnhlpkbjaaGreatMGqD
import Derived.Test.YtneomlnhlpkbjaaGreatMGdA
import Derived.Test.YtneomlnhlpkbjaaGreatMGrF
set_option linter.unusedVariables false
set_option linter.unusedSimpArgs false
namespace Go.Pv
open Go.RowKit
section
variable {P : Program} {n : NN} {nid : Nat} {st : Nat → AV}
theorem nav_cs {cs : List D} {j : Nat} {d : D} (h : cs[j]? = some d) : (D.sl true 1 cs).nav [j] = some d := by
  simp only [D.nav, D.kids, h]
theorem nav_csP {ds : List D} {k j : Nat} {cs : List D} {d : D} (h0 : ds[k]? = some (.sl true 1 cs)) (h : cs[j]? = some d) : (D.pt true ds).nav [k, j] = some d := by
  simp only [D.nav, D.kids, h0, h]
theorem put_cs {cs : List D} {j : Nat} {d c : D} (h : cs[j]? = some c) : (D.sl true 1 cs).put [j] d = .sl true 1 (cs.set j d) := by
  simp only [D.put, D.kids, h, D.withKids]
theorem put_csP {ds : List D} {k j : Nat} {cs : List D} {d c : D} (h0 : ds[k]? = some (.sl true 1 cs)) (h : cs[j]? = some c) : (D.pt true ds).put [k, j] d = .pt true (ds.set k (.sl true 1 (cs.set j d))) := by
  simp only [D.put, D.kids, h0, h, D.withKids]
theorem step_store_cs {t x id off j : Nat} {xv : Operand} {v : Int} {T : TypeId} {cs : List D} {l : List Int} {ty pos aft g} [OneTy P T] (h : st t = .ptr x id [j] off) (hx : st x = .own id (.sl true 1 cs)) (hc : cs[j]? = some (.sl true 1 (ints l)))
    (hv : Lit st xv (.int .i64 v)) (hlt : off < l.length) :
    Step P n ⟨none, .store T (.tmp t) xv, ty, pos, aft, g⟩ nid st (t :: x :: rdOf xv) [(x, .own id (.sl true 1 (cs.set j (.sl true 1 (ints (l.set off v))))))] := by
  have := step_store_ints (P := P) (n := n) (nid := nid) (T := T) (ty := ty) (pos := pos) (aft := aft) (g := g) (path := [j]) h hx (nav_cs hc) rfl hv hlt
  rw [put_cs hc] at this
  exact this
theorem give_csP {t x id k j : Nat} {es cs ds : List D} (h : st t = .als x id [k, j]) (hx : st x = .own id (.pt true es)) (h0 : es[k]? = some (.sl true 1 cs)) (hc : cs[j]? = some (.sl true 1 ds)) : Give st (.tmp t) [t, x] (.sl true 1 ds) [(x, .own id (.pt true (es.set k (.sl true 1 (cs.set j .hole)))))] := by
  have := Give.part (st := st) h hx (nav_csP h0 hc)
  rwa [put_csP h0 hc] at this
end
open Go.Sort in
theorem del_mv {P : Program} {K : FuncId} {l s : List Int} {i j : Int} (h0 : 0 < l.length) (hlen : s.length ≤ l.length)
    (hc : ∀ (blk off cap : Nat) (w : World), Holds (Value.int .i64) w blk off l.toArray → l.length ≤ cap → cap ≤ 9223372036854775807 → Calls P K #[.slice (some ⟨blk, off, none⟩) l.length cap, .int .i64 i, .int .i64 j] w fun e w' => e = .returned (.slice (some ⟨blk, off, none⟩) s.length cap) ∧ ∃ q, w' = putRow (Value.int .i64) (Go.Sort.ahead w q) blk off (s ++ List.replicate (l.length - s.length) 0).toArray) :
    CallA P K [.mv (.one (.sl true 1 (ints l))), .sh (.one (.lit (.int .i64 i))), .sh (.one (.lit (.int .i64 j)))] [.one (.sl true 1 (ints s))] [] := by
  intro w vs M F hF hargs hnd hM
  simp only [ArgsR, ArgR, VR, RD] at hargs
  obtain ⟨u, us', L1, L2, rfl, rfl, ⟨r, hu, us, L0, L1, rfl, hrow, hus⟩, u2, us2, L3, L4, rfl, rfl, ⟨rfl, r2, rfl, _, _⟩, u3, us3, L5, L6, rfl, rfl, ⟨rfl, r3, rfl, _, _⟩, rfl, rfl⟩ := hargs
  have h1 : ∀ x : Int, (Value.int .i64 x).oneCell' = true := fun _ => rfl
  obtain ⟨rfl, rfl⟩ := (rds_lits (enc := Value.int .i64) h1 l _ _ _ _).1 hus
  rcases hrow with ⟨rfl, e1, rfl⟩ | ⟨g, o, m, cap, cur, e, rfl, k2, k3, k4, k5, k6, k7, rfl⟩
  · have hl0 : l = [] := by simpa using e1
    subst hl0; simp at h0
  · rw [List.length_map] at k3
    have hm : m = l.length := by omega
    subst hm
    have hg : g < w.heap.size := hM g (by simp)
    have hH : Holds (Value.int .i64) w g o l.toArray := by
      intro j hj
      simp only [List.size_toArray] at hj
      constructor
      · exact cell_off k2 k7 (by simp [hj])
      · simp [World.frozen?, k2]
    refine (hc g o cap w hH k4 (by unfold maxLen at k5; omega)).mono ?_
    rintro e' w' ⟨rfl, q, rfl⟩
    generalize hz : s ++ List.replicate (l.length - s.length) (0 : Int) = z
    have hzl : z.length = l.length := by rw [← hz, List.length_append, List.length_replicate]; omega
    have hzs : z.take s.length = s := by rw [← hz]; simp
    have hb : (putRow (Value.int .i64) (Go.Sort.ahead w q) g o z.toArray).heap[g]? = some (.cells (putCells (Value.int .i64) o z.toArray cur) e (0, 0)) := by
      simp [putRow, mapBlock, Go.Sort.ahead, Array.getElem?_modify, k2, onCells]
    refine ⟨[.slice (some ⟨g, o, none⟩) s.length cap], [g], [], rfl, ⟨rfl, rfl, rfl, ?_, fun b hb hbM => ?_, by simp [putRow, mapBlock, Go.Sort.ahead]⟩, ?_, by simp [OutsR]; exact ⟨_, _, ⟨rfl, rfl⟩, _, _, rfl, _, _, rfl⟩, by simp, ?_⟩
    · simp [putRow, mapBlock, Go.Sort.ahead]
    · unfold Same
      have : g ≠ b := by rintro rfl; exact hbM (by simp)
      simp [putRow, mapBlock, Go.Sort.ahead, Array.getElem?_modify, this]
    · simp only [VRs, VR]
      refine ⟨_, [], [g], [], rfl, rfl, ⟨fun _ => .slice (some ⟨g, o, none⟩) s.length cap, ?_⟩, rfl, rfl⟩
      simp only [RD]
      refine ⟨trivial, s.map (Value.int .i64), [g], [], rfl, .inr ⟨g, o, s.length, cap, _, e, rfl, hb, by simp, by omega, k5, by simp [putCells]; omega, ?_, rfl⟩, (rds_lits (enc := Value.int .i64) h1 s _ _ _ _).2 ⟨rfl, rfl⟩⟩
      have hsz : o + cap ≤ cur.size := by omega
      apply List.ext_getElem?
      intro j
      rw [List.getElem?_take]
      by_cases hj : j < s.length
      · rw [if_pos (by omega), List.getElem?_drop]
        simp only [putCells, Array.getElem?_toList, Array.getElem?_mapIdx, List.getElem?_map]
        rw [Array.getElem?_eq_getElem (by omega), List.getElem?_eq_getElem (by omega)]
        have hzj : z[j]'(by omega) = s[j] := by
          have h2 : (z.take s.length)[j]'(by rw [List.length_take]; omega) = z[j]'(by omega) := List.getElem_take
          rw [← h2]
          simp only [hzs]
        simp [hzl, show j < l.length by omega, hzj]
      · rw [if_neg (by omega), List.getElem?_eq_none (by simp; omega)]
    · intro b hb
      simp only [List.append_nil, List.mem_singleton] at hb
      subst hb
      refine ⟨?_, .inl (by simp)⟩
      simp [putRow, mapBlock, Go.Sort.ahead]
      omega
end Go.Pv
namespace Go.Proofs.YtneomlnhlpkbjaaGreat
set_option maxHeartbeats 20000000
open Go.Pv
open Go.ChangeShapes Go.WideShapes Go.ChangeAt Go.RowKit
attribute [local irreducible] RunU WpA Step CallG CallNG Done DoneN
theorem gr_row {n : Nat} {E : List (List Int)} (hg : GoodE n E) : ∀ j, j < E.length → (E.getD j []).length = 2 := fun j hj => (hg j hj).1
theorem incW_val {w nr : List Int} (hin : ∀ x ∈ nr, 0 ≤ x ∧ x < w.length) (hnd : nr.Nodup) {j : Nat} (hj : j < nr.length) : (incW w nr j).getD ((nr.getD (j * 1) 0).toNat * 1) 0 = w.getD ((nr.getD (j * 1) 0).toNat * 1) 0 := by
  simp only [Nat.mul_one]
  have hx := hin _ (getD_mem hj)
  rw [incW_at hin hnd j (by omega), if_neg, Int.add_zero]
  intro q
  obtain ⟨m, hm, he⟩ := List.getElem_of_mem q
  rw [List.length_take] at hm
  rw [List.getElem_take] at he
  have e2 : nr.getD j 0 = nr[j] := by simp [List.getD, hj]
  rw [e2] at he hx
  exact (List.pairwise_iff_getElem.1 (List.nodup_iff_pairwise_ne.1 hnd) m j (by omega) hj (by omega)) (by omega)
theorem incW_step (w nr : List Int) (j : Nat) : (incW w nr j).set ((nr.getD (j * 1) 0).toNat * 1) ((incW w nr j).getD ((nr.getD (j * 1) 0).toNat * 1) 0 + 1) = incW w nr (j + 1) := by
  simp only [Nat.mul_one]; rfl
def dcT (v : Int) (r : List Int) : Nat → List Int
  | 0 => r
  | k + 1 => if (dcT v r k).getD k 0 > v then (dcT v r k).set k ((dcT v r k).getD k 0 - 1) else dcT v r k
theorem dcT_len (v : Int) (r : List Int) : ∀ k, (dcT v r k).length = r.length
  | 0 => rfl
  | k + 1 => by
    rw [dcT]
    split
    · rw [List.length_set, dcT_len v r k]
    · exact dcT_len v r k
theorem dcT_two (v a b : Int) : dcT v [a, b] 2 = dcE v [a, b] := by
  simp only [dcT, dcE, dcI, e0, e1]
  by_cases h1 : a > v
  · by_cases h2 : b > v
    · simp [h1, h2]
    · simp [h1, h2]
  · by_cases h2 : b > v
    · simp [h1, h2]
    · simp [h1, h2]
theorem dcT_at (v : Int) (r : List Int) : ∀ k i, k ≤ i → (dcT v r k).getD i 0 = r.getD i 0
  | 0, i, _ => rfl
  | k + 1, i, h => by
    have ih := dcT_at v r k i (by omega)
    rw [dcT]
    split
    · rw [List.getD_eq_getElem?_getD, List.getElem?_set_ne (by omega), ← List.getD_eq_getElem?_getD, ih]
    · exact ih
theorem own_csE {id : Nat} {cs cs' : List D} (h : cs = cs') : AV.own id (.sl true 1 cs) = AV.own id (.sl true 1 cs') := by rw [h]
theorem LL_at {R : List (List Int)} {i : Nat} (h : i < R.length) : (LL R)[i]? = some (.sl true 1 (ints (R.getD i []))) := by
  simp [LL, List.getD, h]
structure HidG (K : Prop) : Prop where
  out : K
theorem cutG {K G : Prop} (f : HidG K → G) (k : K) : G := f ⟨k⟩
theorem WpA.forgetG {P : Program} {n : NN} {st : Nat → AV} {nx : Nat} {c : Code} {Q : Exit → (Nat → AV) → Nat → Prop} (slots : Nat → Nat → Nat → List (Nat × AV)) (a b d : Nat) (h0 : Has st (slots a b d)) (h : ∀ a b d s k, WpA P n c (puts s (slots a b d)) k Q) : WpA P n c st nx Q := by
  have := h a b d st nx
  rwa [puts_has _ _ h0] at this
end Go.Proofs.YtneomlnhlpkbjaaGreat
