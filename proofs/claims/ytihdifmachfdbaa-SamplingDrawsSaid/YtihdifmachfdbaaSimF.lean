/- A part of the proof: values and stores in plain Lean, and the rules by which a walk is taken. -/
import Derived.Test.YtihdifmachfdbaaSimE
import Derived.Laws.Tables
set_option autoImplicit false
set_option linter.unusedSimpArgs false
set_option linter.unusedVariables false
namespace Go.Sim
open Go

section
variable {P : Program} {N : Nat} {F : Nat → Prop} {φ : Env} {T : Nat → TV} {S : Store} {a : Act} {w : World} {M : Nat → Prop}

/-! ### cells written into a row -/
def splice {α : Type} (cs : List α) (off : Nat) (l : List α) : List α := cs.take off ++ l ++ cs.drop (off + l.length)

theorem splice_get {α : Type} {cs l : List α} {off : Nat} (h : off + l.length ≤ cs.length) (i : Nat) :
    (splice cs off l)[i]? = if i < off then cs[i]? else if i < off + l.length then l[i - off]? else cs[i]? := by
  unfold splice
  rw [List.append_assoc, List.getElem?_append, List.length_take, show min off cs.length = off from by omega]
  split
  · rename_i h1
    simp [List.getElem?_take, h1]
  · rw [List.getElem?_append]
    split
    · rw [if_pos (by omega)]
    · rw [if_neg (by omega), List.getElem?_drop]
      congr 1
      omega

theorem splice_len {α : Type} {cs l : List α} {off : Nat} (h : off + l.length ≤ cs.length) : (splice cs off l).length = cs.length := by
  unfold splice
  simp
  omega

def cellsOf : TV → List TV
  | .agg l => l
  | v => [v]

theorem one_oneCell {v : TV} {x : Value} (h : TRep w M φ S v x) (h1 : v.one = true) : x.oneCell' = true ∧ x.cells = #[x] := by
  cases h <;> first
    | (simp [TV.one] at h1; done)
    | (constructor <;> rfl)
    | (rename_i h; cases h <;> (constructor <;> rfl))

theorem rep_cells {v : TV} {x : Value} (h : TRep w M φ S v x) (h1 : (cellsOf v).all TV.one = true) :
    (cellsOf v).length = x.cells.size ∧ (∀ i (hi : i < (cellsOf v).length) y, x.cells[i]? = some y → TRep w M φ S (cellsOf v)[i] y) ∧ (∀ y, y ∈ x.cells.toList → y.oneCell' = true) := by
  by_cases hv : v.one = true
  · obtain ⟨a1, a2⟩ := one_oneCell h hv
    have hc : cellsOf v = [v] := by cases v <;> first | rfl | (simp [TV.one] at hv)
    rw [hc, a2]
    refine ⟨rfl, fun i hi y hy => ?_, fun y hy => ?_⟩
    · have : i = 0 := by simpa using hi
      subst this
      simp at hy
      subst hy
      exact h
    · simp at hy
      subst hy
      exact a1
  · cases h with
    | agg l cs hl hr =>
      refine ⟨hl, hr, fun y hy => ?_⟩
      obtain ⟨i, hi, rfl⟩ := List.getElem_of_mem hy
      simp [Value.cells] at hi
      have h2 := hr i (by omega) cs[i] (by simp [hi])
      have h3 : l[i].one = true := by
        simp only [cellsOf, List.all_eq_true] at h1
        exact h1 _ (List.getElem_mem _)
      simpa [Value.cells] using (one_oneCell h2 h3).1
    | tup => simp [cellsOf, TV.one] at h1
    | junk => simp [cellsOf, TV.one] at h1
    | _ => simp [TV.one] at hv

/-! ### store -/
def tvStore (P : Program) (S : Store) (t : TypeId) (x v : TV) : Option Store := match szOf P t with
  | some n => match x with
    | .ptr id g off => match S.at id g with
      | some (et, esz, cs) => if (cellsOf v).length = n ∧ off + (cellsOf v).length ≤ cs.length ∧ (cellsOf v).all TV.one = true then some (S.set id (.cells g et esz (splice cs off (cellsOf v)))) else none
      | none => none
    | _ => none
  | none => none

theorem splice_rep {cs l : List TV} {arr : Array Value} {vs : List Value} {base off : Nat} (h1 : off + l.length ≤ cs.length) (h2 : base + cs.length ≤ arr.size) (hl : l.length = vs.length)
    (hc : ∀ i (hi : i < cs.length), ∃ v, arr[base + i]? = some v ∧ cs[i].one = true ∧ TRep w M φ S cs[i] v)
    (hv : ∀ i (hi : i < l.length) y, vs[i]? = some y → l[i].one = true ∧ TRep w M φ S l[i] y) :
    ∀ i (hi : i < (splice cs off l).length) v, (arr.toList.take (base + off) ++ vs ++ arr.toList.drop (base + off + vs.length)).toArray[base + i]? = some v →
      (splice cs off l)[i].one = true ∧ TRep w M φ S (splice cs off l)[i] v := by
  intro i hi v hget
  rw [splice_len h1] at hi
  have e1 := splice_get h1 i
  have e2 := splice_get (cs := arr.toList) (l := vs) (off := base + off) (by simp; omega) (base + i)
  rw [List.getElem?_eq_getElem (by rw [splice_len h1]; exact hi)] at e1
  rw [List.getElem?_toArray] at hget
  unfold splice at e2
  rw [e2] at hget
  by_cases c1 : i < off
  · rw [if_pos (by omega)] at hget
    rw [if_pos c1, List.getElem?_eq_getElem hi] at e1
    injection e1 with e1
    rw [e1]
    obtain ⟨u, g1, g2, g3⟩ := hc i hi
    simp only [Array.getElem?_toList] at hget
    rw [g1] at hget
    injection hget with hget
    subst hget
    exact ⟨g2, g3⟩
  · rw [if_neg (by omega)] at hget
    rw [if_neg c1] at e1
    by_cases c2 : i < off + l.length
    · rw [if_pos (by omega)] at hget
      rw [if_pos c2, List.getElem?_eq_getElem (by omega)] at e1
      injection e1 with e1
      rw [e1]
      refine hv (i - off) (by omega) v ?_
      rw [← hget]
      congr 1
      omega
    · rw [if_neg (by omega)] at hget
      rw [if_neg c2, List.getElem?_eq_getElem hi] at e1
      injection e1 with e1
      rw [e1]
      obtain ⟨u, g1, g2, g3⟩ := hc i hi
      simp only [Array.getElem?_toList] at hget
      rw [g1] at hget
      injection hget with hget
      subst hget
      exact ⟨g2, g3⟩

theorem tvStore_ok {t : TypeId} {vx vv : TV} {x v : Value} {S' : Store} (hok : StoreOK F φ S w) (h : tvStore P S t vx vv = some S') (hx : TRep w (Mut F φ S) φ S vx x) (hv : TRep w (Mut F φ S) φ S vv v) :
    ∃ w', (Instr.storeAt t x v).run P w = .ok () w' ∧ StoreOK F φ S' w' ∧ Ext φ S w φ S' w' := by
  unfold tvStore at h
  split at h
  · rename_i n hn
    split at h
    · rename_i id g off
      split at h
      · rename_i et esz cs hat
        split at h
        · rename_i hc
          obtain ⟨c1, c2, c3⟩ := hc
          simp at h
          subst h
          have hg := at_some hat
          obtain ⟨arr, a1, a2, a3, a4⟩ := obj_cell hok hg
          cases hx with
          | ptr id g off ad o h1 h2 h3 =>
            rw [hg] at h1
            injection h1 with h1
            subst h1
            have hadr := h3 rfl
            subst hadr
            obtain ⟨b1, b2, b3⟩ := rep_cells hv c3
            have hlen : v.cells.toList.length = (cellsOf vv).length := by simp [b1]
            have hrun := run_storeCells_at P (φ.blk id) (φ.base id + off) et v.cells.toList 0 arr w a1 (by rw [hlen]; omega) b3
            simp only [Nat.add_zero] at hrun
            have hsz : v.cells.size = n := by rw [← c1, b1]
            have hset := set_cells (arr' := (arr.toList.take (φ.base id + off) ++ v.cells.toList ++ arr.toList.drop (φ.base id + off + v.cells.toList.length)).toArray)
              hok hg a1 (by simp; omega) a2 (by rw [splice_len c2]; exact a3)
              (splice_rep c2 a3 (by simp [b1]) (fun i hi => by
                obtain ⟨u, g1, g2, g3, g4⟩ := a4 i hi
                exact ⟨u, g1, g3, g4⟩) (fun i hi y hy => by
                refine ⟨?_, b2 i hi y (by simpa using hy)⟩
                simp only [List.all_eq_true] at c3
                exact c3 _ (List.getElem_mem _)))
            refine ⟨_, ?_, hset⟩
            simp only [Instr.storeAt, Instr.sureAddr, storeVar, Sem.run_bind, Sem.run_pure, Result.andThen_ok, run_szOf hn, hsz, ne_eq, not_true_eq_false, if_false]
            exact hrun
        · simp at h
      · simp at h
    · simp at h
  · simp at h

/-! ### new variables -/
def zeroCs (P : Program) (t : TypeId) : Option (List CV) := match P.info? t with
  | some i => match i.zero with
    | some z => z.cells.toList.mapM ofValue
    | none => none
  | none => none

theorem mapM_get {l : List Value} {cs : List CV} (h : l.mapM ofValue = some cs) : cs.length = l.length ∧ ∀ i (hi : i < cs.length) v, l[i]? = some v → ofValue v = some cs[i] := by
  induction l generalizing cs with
  | nil => simp at h; subst h; simp
  | cons x l ih =>
    simp only [List.mapM_cons, Option.bind_eq_bind, Option.bind_eq_some_iff, Option.pure_def, Option.some.injEq] at h
    obtain ⟨c, hc, r, hr, rfl⟩ := h
    obtain ⟨a1, a2⟩ := ih hr
    refine ⟨by simp [a1], fun i hi v hv => ?_⟩
    cases i with
    | zero => simp at hv; subst hv; simpa using hc
    | succ i => simpa using a2 i (by simpa using hi) v (by simpa using hv)

theorem zeroCs_ok {t : TypeId} {cs : List CV} (h : zeroCs P t = some cs) : ∃ z, (zeroValue t).run P w = .ok z w ∧ cs.length = z.cells.size ∧ ∀ i (hi : i < cs.length) v, z.cells[i]? = some v → CRep w M cs[i] v := by
  unfold zeroCs at h
  split at h
  · rename_i i hi
    split at h
    · rename_i z hz
      obtain ⟨a1, a2⟩ := mapM_get h
      refine ⟨z, by simp [zeroValue, run_typeInfo w hi, hz], by simpa using a1, fun j hj v hv => ofValue_ok (a2 j hj v (by simpa using hv))⟩
    · simp at h
  · simp at h

theorem newRow_run (et : TypeId) (arr : Array Value) : (newRow et arr).run P w = .ok ⟨w.heap.size, 0, none⟩ (World.pushed w (.cells arr et)) := by
  simp [newRow, World.pushed]

theorem ptr_new {id n b : Nat} {o : AObj} (hg : o.gen = 0) {w' : World} {M' : Nat → Prop} (hb : b = 0) : TRep w' M' (φ.new S.next id n) (S.push o) (.ptr S.next 0 0) (.pointer (some ⟨id, b, none⟩)) :=
  .ptr _ _ _ _ o (by rw [get_push, if_pos rfl]) (by omega) fun _ => by simp [Env.new, hb]

def tvAlloc (P : Program) (S : Store) (e : TypeId) : Option (TV × Store) := match zeroCs P e with
  | some cs => some (.ptr S.next 0 0, S.push (.cells 0 e 0 (cs.map .c)))
  | none => none

theorem tvAlloc_ok {e : TypeId} {v : TV} {S' : Store} (hok : StoreOK F φ S w) (h : tvAlloc P S e = some (v, S')) :
    ∃ x w' φ', (Instr.alloc e true (.tuple #[])).run P w = .ok x w' ∧ StoreOK F φ' S' w' ∧ Ext φ S w φ' S' w' ∧ TRep w' (Mut F φ' S') φ' S' v x := by
  unfold tvAlloc at h
  split at h
  · rename_i cs hz
    simp at h
    obtain ⟨rfl, rfl⟩ := h
    obtain ⟨z, hr, hl, hc⟩ := zeroCs_ok (P := P) (w := w) (M := Mut F φ S) hz
    obtain ⟨b1, b2⟩ := push_cells (w := w) hok e 0 (cs.map .c) z.cells (by simp [hl]) (fun i hi v hv => by
      simp at hi
      simp only [List.getElem_map]
      exact ⟨rfl, .c _ _ (hc i hi v hv)⟩)
    refine ⟨.pointer (some ⟨w.heap.size, 0, none⟩), _, _, ?_, b1, b2, ptr_new rfl rfl⟩
    simp [Instr.alloc, newVar, hr, newRow_run]
  · simp at h

def tvBox (S : Store) (e : TypeId) (v : TV) : Option (TV × Store) :=
  if (cellsOf v).all TV.one = true then some (.ptr S.next 0 0, S.push (.cells 0 e 0 (cellsOf v))) else none

theorem tvBox_ok {e : TypeId} {vv v : TV} {x : Value} {S' : Store} (hok : StoreOK F φ S w) (h : tvBox S e vv = some (v, S')) (hx : TRep w (Mut F φ S) φ S vv x) :
    ∃ y w' φ', (Instr.box e x).run P w = .ok y w' ∧ StoreOK F φ' S' w' ∧ Ext φ S w φ' S' w' ∧ TRep w' (Mut F φ' S') φ' S' v y := by
  unfold tvBox at h
  split at h
  · rename_i hall
    simp at h
    obtain ⟨rfl, rfl⟩ := h
    obtain ⟨c1, c2, c3⟩ := rep_cells hx hall
    obtain ⟨b1, b2⟩ := push_cells (w := w) hok e 0 (cellsOf vv) x.cells (by omega) (fun i hi v hv => by
      simp only [List.all_eq_true] at hall
      exact ⟨hall _ (List.getElem_mem _), c2 i hi v hv⟩)
    refine ⟨.pointer (some ⟨w.heap.size, 0, none⟩), _, _, ?_, b1, b2, ptr_new rfl rfl⟩
    simp [Instr.box, newVar, newRow_run]
  · simp at h
end
end Go.Sim
