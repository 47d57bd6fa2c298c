/- A part of the proof: values and stores in plain Lean, and the rules by which a walk is taken. -/
import Derived.Test.YtihdifmachfdbaaSimQ
import Derived.Sort.Grow
import Derived.Sort.Row
import Derived.Sort.EveryDepth
set_option autoImplicit false
set_option linter.unusedSimpArgs false
set_option linter.unusedVariables false
namespace Go.Sim
open Go Go.Sort

section
variable {P : Program} {F : Nat → Prop} {φ : Env} {S : Store} {w w1 : World}

/-- A part of a row, sorted. -/
def sortMid (l : List Int) (off len : Nat) : List Int := l.take off ++ ((l.drop off).take len).mergeSort (fun x y => decide (x ≤ y)) ++ l.drop (off + len)

theorem sortMid_get {l : List Int} {off len : Nat} (h : off + len ≤ l.length) (i : Nat) :
    (sortMid l off len)[i]? = if i < off then l[i]? else if i < off + len then (((l.drop off).take len).mergeSort (fun x y => decide (x ≤ y)))[i - off]? else l[i]? := by
  unfold sortMid
  rw [List.append_assoc, List.getElem?_append, List.length_take, show min off l.length = off from by omega]
  split
  · rename_i hi
    rw [List.getElem?_take_of_lt hi]
  · rename_i hi
    rw [List.getElem?_append, List.length_mergeSort, List.length_take, List.length_drop, show min len (l.length - off) = len from by omega]
    split
    · rename_i hi2
      rw [if_pos (by omega)]
    · rename_i hi2
      rw [if_neg (by omega), List.getElem?_drop]
      congr 1
      omega

theorem sortMid_len {l : List Int} {off len : Nat} (h : off + len ≤ l.length) : (sortMid l off len).length = l.length := by
  simp [sortMid]
  omega

theorem set_self {id : Nat} {o : AObj} (h : S.get id = some o) : S.set id o = S := by
  cases S with
  | mk n g =>
    unfold Store.set
    congr 1
    funext i
    simp only
    split
    · rename_i e; subst e; exact h.symm
    · rfl

/-- The library's sort of whole numbers, as a call on values and a store. -/
theorem sort_acall {f : FuncId}
    (hsort : ∀ (blk off cap : Nat) (zs : List Int) (w : World), Holds (Value.int .i64) w blk off zs.toArray → blk < w.heap.size → zs.length < 4611686018427387904 →
      Calls P f #[.slice (some ⟨blk, off, none⟩) zs.length cap] w fun e w' => e = .returned (.tuple #[]) ∧ ∃ n os, w' = grow (putRow (Value.int .i64) (Sort.ahead w n) blk off (zs.mergeSort fun x y => decide (x ≤ y)).toArray) os)
    (hnone : ∀ (a : Option Addr) (cap : Nat) (w : World), Calls P f #[.slice a 0 cap] w fun e w' => e = .returned (.tuple #[]) ∧ w' = w)
    {id g off len : Nat} {et : TypeId} {l : List Int} (hat : S.at id g = some (et, 1, ints l)) (hle : off + len ≤ l.length) (hsz : len < 4611686018427387904) :
    ACall P f [.view id g off len] S fun r S' => r = .tup [] ∧ S' = S.set id (.cells g et 1 (ints (sortMid l off len))) := by
  intro F φ w args hok hl
  have hg := at_some hat
  obtain ⟨h1, h2⟩ := hl
  obtain ⟨v, rfl⟩ : ∃ v, args = #[v] := by
    have : args.toList.length = 1 := by rw [← h1]; rfl
    obtain ⟨v, hv⟩ := List.length_eq_one_iff.1 this
    exact ⟨v, by apply Array.ext'; simpa using hv⟩
  have hv := h2 0 (by simp) v (by simp)
  simp only [List.getElem_cons_zero] at hv
  obtain ⟨arr, a1, a2, a3, a4⟩ := obj_cell hok hg
  have und : ∀ (M : Nat → Prop) (φ' : Env) (S' : Store) (w' : World), TRep w' M φ' S' (.tup []) (.tuple #[]) := fun M φ' S' w' => .tup [] #[] rfl fun i hi => absurd hi (by simp)
  cases hv with
  | view id g off len ad cap o hcap he g1 g2 g3 =>
    rw [hg] at g1
    injection g1 with g1
    subst g1
    obtain ⟨b1, b2⟩ := g3 rfl
    by_cases hlen : len = 0
    · subst hlen
      refine (hnone ad cap w).mono ?_
      rintro e w' ⟨rfl, rfl⟩
      have hs0 : sortMid l off 0 = l := by simp [sortMid]
      refine ⟨_, .tup [], S, φ, rfl, ⟨rfl, ?_⟩, und _ _ _ _, hok, Ext.refl _ _ _⟩
      rw [hs0, set_self hg]
    · have hc : 0 < cap := by omega
      have hb1 := b1 hc
      subst hb1
      have hsort' := hsort (φ.blk id) (φ.base id + off) cap ((l.drop off).take len) w ?_ (Array.getElem?_eq_some_iff.1 a1).1 (by simp; omega)
      · have hlen2 : ((l.drop off).take len).length = len := by simp; omega
        rw [hlen2] at hsort'
        refine hsort'.mono ?_
        rintro e w' ⟨rfl, n, os, rfl⟩
        generalize hm : ((l.drop off).take len).mergeSort (fun x y => decide (x ≤ y)) = m
        have hml : m.length = len := by rw [← hm, List.length_mergeSort, hlen2]
        obtain ⟨c1, c2⟩ := set_cells (w := w) (cs' := ints (sortMid l off len)) (arr' := putCells (Value.int .i64) (φ.base id + off) m.toArray arr) hok hg a1 (by simp [putCells]) a2 (by rw [ints_len, sortMid_len hle]; rw [ints_len] at a3; omega) (fun i hi v hv => by
          rw [ints_len, sortMid_len hle] at hi
          have hi2 : i < (sortMid l off len).length := by rw [sortMid_len hle]; exact hi
          rw [ints_len] at a3
          have e1 : (ints (sortMid l off len))[i]'(by rw [ints_len]; exact hi2) = .c (.int .i64 (sortMid l off len)[i]) := by simp [ints]
          rw [e1]
          refine ⟨rfl, ?_⟩
          have e2 : v = .int .i64 (sortMid l off len)[i] := by
            have hgi : (sortMid l off len)[i]? = some (sortMid l off len)[i] := List.getElem?_eq_getElem hi2
            rw [sortMid_get hle, hm] at hgi
            simp only [putCells, Array.getElem?_mapIdx, Option.map_eq_some_iff] at hv
            obtain ⟨x, hx1, hx2⟩ := hv
            obtain ⟨y, y1, y2, y3, y4⟩ := a4 i (by rw [ints_len]; exact hi)
            rw [hx1] at y1
            injection y1 with y1
            subst y1
            by_cases q1 : i < off
            · rw [if_pos q1] at hgi
              rw [if_neg (by omega)] at hx2
              subst hx2
              have e3 : (ints l)[i]'(by rw [ints_len]; exact hi) = .c (.int .i64 l[i]) := by simp [ints]
              rw [e3] at y4
              have := rep_int y4
              rw [this]
              rw [List.getElem?_eq_getElem hi] at hgi
              injection hgi with hgi
              rw [hgi]
            · rw [if_neg q1] at hgi
              by_cases q2 : i < off + len
              · rw [if_pos q2] at hgi
                rw [if_pos (by simp [hml]; omega)] at hx2
                subst hx2
                have hq : i - off < m.length := by omega
                rw [List.getElem?_eq_getElem hq] at hgi
                injection hgi with hgi
                have e4 : φ.base id + i - (φ.base id + off) = i - off := by omega
                rw [e4]
                simp [hq, hgi]
              · rw [if_neg q2] at hgi
                rw [if_neg (by simp [hml]; omega)] at hx2
                subst hx2
                have e3 : (ints l)[i]'(by rw [ints_len]; exact hi) = .c (.int .i64 l[i]) := by simp [ints]
                rw [e3] at y4
                have := rep_int y4
                rw [this]
                rw [List.getElem?_eq_getElem hi] at hgi
                injection hgi with hgi
                rw [hgi]
          rw [e2]
          exact .c _ _ (.int _ _))
        have hheap : ∀ b, b < w.heap.size → (grow (putRow (Value.int .i64) (Sort.ahead w n) (φ.blk id) (φ.base id + off) m.toArray) os).heap[b]? = (w.setRow (φ.blk id) (putCells (Value.int .i64) (φ.base id + off) m.toArray arr)).heap[b]? := by
          intro b hb
          have hsz1 : (putRow (Value.int .i64) (Sort.ahead w n) (φ.blk id) (φ.base id + off) m.toArray).heap.size = w.heap.size := by simp [putRow, mapBlock, Sort.ahead]
          simp only [grow]
          rw [Array.getElem?_append_left (by rw [hsz1]; exact hb)]
          simp only [putRow, mapBlock, Sort.ahead, World.setRow, Array.getElem?_modify]
          split
          · rename_i e
            subst e
            rw [a1]
            rfl
          · rfl
        obtain ⟨d1, d2⟩ := ok_more (w1 := grow (putRow (Value.int .i64) (Sort.ahead w n) (φ.blk id) (φ.base id + off) m.toArray) os) c1 (by simp [grow, putRow, mapBlock, Sort.ahead, World.setRow]) (fun b hb => hheap b (by simpa [World.setRow] using hb)) rfl rfl rfl
        exact ⟨_, .tup [], _, φ, rfl, ⟨rfl, rfl⟩, und _ _ _ _, d1, c2.trans d2⟩
      · intro j hj
        simp only [List.size_toArray] at hj
        have hj' : j < len := by simp at hj; omega
        obtain ⟨y, y1, y2, y3, y4⟩ := a4 (off + j) (by rw [ints_len]; omega)
        have e3 : (ints l)[off + j]'(by rw [ints_len]; omega) = .c (.int .i64 l[off + j]) := by simp [ints]
        rw [e3] at y4
        have hy := rep_int y4
        subst hy
        refine ⟨?_, ?_⟩
        · unfold World.cell?
          simp only [a1, Nat.add_assoc, y1]
          rw [getElem!_pos _ j (by simpa using hj)]
          simp
        · unfold World.frozen?
          simp only [a1]
          simp
end
end Go.Sim
