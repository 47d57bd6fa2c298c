/- A part of the proof: values and stores in plain Lean, and the rules by which a walk is taken. -/
import Derived.Test.YtihdifmachfdbaaSimV
set_option autoImplicit false
set_option linter.unusedSimpArgs false
set_option linter.unusedVariables false
namespace Go.Sim
open Go

section
variable {P : Program} {tab : Tab}

/-! ### cells written -/
def oneS : SV → Bool
  | .agg _ | .tup _ | .junk | .opt _ _ => false
  | _ => true
theorem ifc_cells (t : TypeId) (v : SV) : (∃ c, SV.cells (.ifc t v) = [.c (.ifc t c)]) ∨ (∃ x, SV.cells (.ifc t v) = [.ifc t x]) := by
  simp only [SV.cells]
  split
  · exact .inl ⟨_, rfl⟩
  · exact .inr ⟨_, rfl⟩
theorem oneS_cells {v : SV} (h : oneS v = true) : v.cells.all TV.one = true := by
  cases v <;> simp [oneS] at h
  case gview id len => cases len <;> rfl
  case ifc t v => rcases ifc_cells t v with ⟨c, e⟩ | ⟨c, e⟩ <;> rw [e] <;> rfl
  all_goals simp [SV.cells, TV.one]
theorem allOne {l : List SV} (h : l.all oneS = true) : (SV.cellsL l).all TV.one = true := by
  induction l with
  | nil => rfl
  | cons v l ih =>
    simp only [List.all_cons, Bool.and_eq_true] at h
    simp only [SV.cellsL, List.all_append, Bool.and_eq_true]
    exact ⟨oneS_cells h.1, ih h.2⟩

def newOf : SV → Option (List SV)
  | .agg l => match l.all oneS with
    | true => some l
    | false => none
  | v => match v.single, oneS v with
    | true, true => some [v]
    | _, _ => none
theorem newOf_ok {v : SV} {l : List SV} (h : newOf v = some l) : cellsOf v.out = SV.cellsL l ∧ (SV.cellsL l).all TV.one = true := by
  unfold newOf at h
  split at h
  · split at h
    · rename_i ha
      injection h with h
      subst h
      exact ⟨rfl, allOne ha⟩
    · cases h
  · split at h
    · rename_i h1 h2
      injection h with h
      subst h
      have e : SV.cellsL [v] = [v.out] := by simp [SV.cellsL, single_cells h1]
      have ho := oneS_cells h2
      rw [single_cells h1] at ho
      refine ⟨?_, by rw [e]; exact ho⟩
      rw [e]
      simp at ho
      cases hv : v.out <;> rw [hv] at ho <;> first | rfl | (simp [TV.one] at ho)
    · cases h

/-- Are these exactly n cells? -/
def countC (l : List SV) (n : Nat) : Bool := match takeC l n, dropC l n with
  | some _, some [] => true
  | _, _ => false
theorem countC_ok {l : List SV} {n : Nat} (h : countC l n = true) : (SV.cellsL l).length = n := by
  unfold countC at h
  split at h
  · rename_i h1 h2
    have a := (takeC_ok _ _ _ h1).2.2
    have b := (dropC_ok _ _ _ h2).1
    have := congrArg List.length b
    simp [SV.cellsL] at this
    omega
  · cases h

theorem splice_mid {α : Type} {A B C N : List α} {k : Nat} (h : k + N.length ≤ B.length) : splice (A ++ B ++ C) (A.length + k) N = A ++ splice B k N ++ C := by
  unfold splice
  have h1 : (A ++ B ++ C).take (A.length + k) = A ++ B.take k := by
    rw [List.append_assoc, List.take_append, List.take_of_length_le (by omega), Nat.add_sub_cancel_left, List.take_append_of_le_length (by omega)]
  have h2 : (A ++ B ++ C).drop (A.length + k + N.length) = B.drop (k + N.length) ++ C := by
    rw [List.append_assoc, List.drop_append, List.drop_eq_nil_of_le (by omega), List.nil_append, show A.length + k + N.length - A.length = k + N.length by omega, List.drop_append_of_le_length (by omega)]
  rw [h1, h2]
  simp [List.append_assoc]

theorem splice_mid' {α : Type} {A B C N : List α} {a k : Nat} (ha : a = A.length) (h : k + N.length ≤ B.length) : splice (A ++ B ++ C) (a + k) N = A ++ splice B k N ++ C := by
  subst ha; exact splice_mid h

/-- New cells at a plain place. -/
def setP (cs : List SV) (off : Nat) (new : List SV) (n : Nat) : Option (List SV) := match takeC cs off, dropC cs off with
  | some a, some b => match dropC b n with
    | some r => some (a ++ new ++ r)
    | none => none
  | _, _ => none
theorem takeC_take {cs r : List SV} {n : Nat} (h : takeC cs n = some r) : (SV.cellsL cs).take n = SV.cellsL r := by
  have := (takeC_ok _ _ _ h).1 []
  simpa using this
theorem setP_ok {cs new cs' : List SV} {off n : Nat} (h : setP cs off new n = some cs') (hn : (SV.cellsL new).length = n) : off + n ≤ (SV.cellsL cs).length ∧ splice (SV.cellsL cs) off (SV.cellsL new) = SV.cellsL cs' := by
  unfold setP at h
  split at h
  · rename_i a b ha hb
    split at h
    · rename_i r hr
      injection h with h
      subst h
      obtain ⟨d1, d2⟩ := dropC_ok _ _ _ hb
      obtain ⟨e1, e2⟩ := dropC_ok _ _ _ hr
      have hlen := congrArg List.length d1
      simp at hlen
      refine ⟨by omega, ?_⟩
      unfold splice
      rw [takeC_take ha, hn, ← List.drop_drop, d1, e1, cellsL_append, cellsL_append]
    · cases h
  · cases h

/-- New cells in the element i of a row. -/
def setE (cs : List SV) (off i esz c : Nat) (new : List SV) (n : Nat) : Option (Prop × List SV) := match takeC cs off, dropC cs off with
  | some a, some (.arr k m f :: r) => match Nat.beq esz 1, Nat.beq c 0, asInt k new with
    | true, true, some (y, []) => some (i < m, a ++ .arr k m (fun j => if j = i then y else f j) :: r)
    | _, _, _ => none
  | some a, some (.barr m f :: r) => match Nat.beq esz 1, Nat.beq c 0, asBool new with
    | true, true, some (y, []) => some (i < m, a ++ .barr m (fun j => if j = i then y else f j) :: r)
    | _, _, _ => none
  | some a, some (.lst t l :: r) => match Nat.beq esz t.size, takeC (mkC t (l.getD i (dflt t))) c, dropC (mkC t (l.getD i (dflt t))) (c + n) with
    | true, some x, some z => match asDen t (x ++ new ++ z) with
      | some (y, []) => some (i < l.length, a ++ .lst t (l.set i y) :: r)
      | _ => none
    | _, _, _ => none
  | _, _ => none

theorem range_set (f : Nat → TV) (m i : Nat) (v : TV) (h : i < m) : splice ((List.range m).map f) i [v] = (List.range m).map fun j => if j = i then v else f j := by
  rw [splice_one (by simpa using h)]
  apply List.ext_getElem
  · simp
  · intro j h1 h2
    simp only [List.getElem_set, List.getElem_map, List.getElem_range]
    by_cases e : i = j
    · subst e; simp
    · rw [if_neg e, if_neg (Ne.symm e)]

theorem setE_ok {cs new cs' : List SV} {off i esz c n : Nat} {ob : Prop} (h : setE cs off i esz c new n = some (ob, cs')) (hob : ob) (hn : (SV.cellsL new).length = n) :
    off + i * esz + c + n ≤ (SV.cellsL cs).length ∧ splice (SV.cellsL cs) (off + i * esz + c) (SV.cellsL new) = SV.cellsL cs' := by
  unfold setE at h
  split at h
  · rename_i a k m f r ha hb
    split at h
    · rename_i y h1 h2 h3
      obtain ⟨rfl, rfl⟩ := ov h
      obtain ⟨d1, d2⟩ := dropC_ok _ _ _ hb
      have t1 := takeC_take ha
      have e1 := Nat.eq_of_beq_eq_true h1
      have e2 := Nat.eq_of_beq_eq_true h2
      have e3 := asDen_cells (.i k) new [] y h3
      simp [enc, SV.cellsL] at e3
      have hcs : SV.cellsL cs = SV.cellsL a ++ SV.cells (.arr k m f) ++ SV.cellsL r := by
        rw [← List.take_append_drop off (SV.cellsL cs), t1, d1]
        simp [SV.cellsL]
      have hal : (SV.cellsL a).length = off := (takeC_ok _ _ _ ha).2.1
      rw [e3] at hn
      simp at hn
      rw [hcs, e3, e1, e2, Nat.mul_one, Nat.add_zero]
      refine ⟨by simp [SV.cells, hal]; omega, ?_⟩
      rw [splice_mid' hal.symm (by simp [SV.cells]; omega)]
      have := range_set (fun j => TV.c (.int k (f j))) m i (.c (.int k y)) hob
      simp only [SV.cells, this, cellsL_append, SV.cellsL, List.append_assoc]
      congr 2
      apply List.map_congr_left
      intro j hj
      split <;> rfl
    · cases h
  · rename_i a m f r ha hb
    split at h
    · rename_i y h1 h2 h3
      obtain ⟨rfl, rfl⟩ := ov h
      obtain ⟨d1, d2⟩ := dropC_ok _ _ _ hb
      have t1 := takeC_take ha
      have e1 := Nat.eq_of_beq_eq_true h1
      have e2 := Nat.eq_of_beq_eq_true h2
      have e3 := asDen_cells .b new [] y h3
      simp [enc, SV.cellsL] at e3
      have hcs : SV.cellsL cs = SV.cellsL a ++ SV.cells (.barr m f) ++ SV.cellsL r := by
        rw [← List.take_append_drop off (SV.cellsL cs), t1, d1]
        simp [SV.cellsL]
      have hal : (SV.cellsL a).length = off := (takeC_ok _ _ _ ha).2.1
      rw [e3] at hn
      simp at hn
      rw [hcs, e3, e1, e2, Nat.mul_one, Nat.add_zero]
      refine ⟨by simp [SV.cells, hal]; omega, ?_⟩
      rw [splice_mid' hal.symm (by simp [SV.cells]; omega)]
      have := range_set (fun j => TV.c (.bool (f j))) m i (.c (.bool y)) hob
      simp only [SV.cells, this, cellsL_append, SV.cellsL, List.append_assoc]
      congr 2
      apply List.map_congr_left
      intro j hj
      split <;> rfl
    · cases h
  · rename_i a t l r ha hb
    split at h
    · rename_i x z h1 hx hz
      split at h
      · rename_i y hy
        obtain ⟨rfl, rfl⟩ := ov h
        obtain ⟨d1, d2⟩ := dropC_ok _ _ _ hb
        have t1 := takeC_take ha
        have e1 := Nat.eq_of_beq_eq_true h1
        subst e1
        have e3 := asDen_cells t _ [] y hy
        have x1 := takeC_take hx
        have x2 := (takeC_ok _ _ _ hx).2.1
        obtain ⟨z1, z2⟩ := dropC_ok _ _ _ hz
        rw [mkC_cells] at x1 z1 z2
        simp only [List.length_map, enc_len] at z2
        have hcs : SV.cellsL cs = SV.cellsL a ++ SV.cells (.lst t l) ++ SV.cellsL r := by
          rw [← List.take_append_drop off (SV.cellsL cs), t1, d1]
          simp [SV.cellsL]
        have hal : (SV.cellsL a).length = off := (takeC_ok _ _ _ ha).2.1
        have hmul := Nat.mul_le_mul_right t.size (show i + 1 ≤ l.length from hob)
        rw [Nat.add_mul, Nat.one_mul] at hmul
        have hel : (SV.cells (.lst t l)) = (encs t (l.take i)).map .c ++ (enc t (l.getD i (dflt t))).map .c ++ (encs t (l.drop (i + 1))).map .c := by
          simp only [SV.cells]
          have e : l = l.take i ++ (l.getD i (dflt t) :: l.drop (i + 1)) := by
            have : l.getD i (dflt t) = l[i] := by simp [List.getD_eq_getElem?_getD, hob]
            rw [this, ← List.drop_eq_getElem_cons hob, List.take_append_drop]
          conv => lhs; rw [e]
          simp [encs]
        have hA : ((encs t (l.take i)).map TV.c).length = i * t.size := by
          rw [List.length_map, encs_len, List.length_take, Nat.min_eq_left (Nat.le_of_lt hob)]
        refine ⟨by rw [hcs]; simp [SV.cells, hal, encs_len]; omega, ?_⟩
        rw [hcs, Nat.add_assoc, splice_mid' hal.symm (by rw [hn]; simp [SV.cells, encs_len]; omega), hel, splice_mid' hA.symm (by rw [hn, List.length_map, enc_len]; omega)]
        have hsp : splice ((enc t (l.getD i (dflt t))).map TV.c) c (SV.cellsL new) = (enc t y).map TV.c := by
          unfold splice
          rw [x1, hn, z1]
          rw [cellsL_append, cellsL_append] at e3
          simpa [SV.cellsL] using e3
        rw [hsp]
        simp only [cellsL_append, SV.cellsL, SV.cells]
        rw [List.set_eq_take_append_cons_drop, if_pos hob]
        simp [encs]
      · cases h
    · cases h
  · cases h

/-! ### an object's cells anew -/
def setO : List SObj → Nat → List SV → Option (Prop × List SObj)
  | [], _, _ => none
  | o :: L, 0, cs => match o with
    | .obj g et esz _ => some (True, .obj g et esz cs :: L)
    | .grow et t l => match cs with
      | [.lst t' l'] => match decEq t' t with
        | isTrue h => some (l'.length = l.length, .grow et t (h ▸ l') :: L)
        | isFalse _ => none
      | _ => none
    | _ => none
  | o :: L, i + 1, cs => match setO L i cs with
    | some (ob, L') => some (ob, o :: L')
    | none => none

theorem store_ext {S S' : Store} (h1 : S.next = S'.next) (h2 : ∀ i, S.get i = S'.get i) : S = S' := by
  cases S; cases S'; simp at h1 h2; subst h1; congr; funext i; exact h2 i

theorem setO_spec : ∀ {L L' : List SObj} {id g et esz : Nat} {cs0 cs : List SV} {ob : Prop}, getO L id = some (g, et, esz, cs0) → isThere L id → setO L id cs = some (ob, L') → ob →
    L'.length = L.length ∧ ∀ i, ((L'[i]?).bind SObj.out) = if i = id then some (.cells g et esz (SV.cellsL cs)) else ((L[i]?).bind SObj.out)
  | [], L', id, g, et, esz, cs0, cs, ob, h, ht, hs, hob => by cases h
  | o :: L, L', 0, g, et, esz, cs0, cs, ob, h, ht, hs, hob => by
    cases o with
    | obj g' et' esz' c' =>
      simp only [getO] at h
      injection h with h
      simp only [Prod.mk.injEq] at h
      obtain ⟨rfl, rfl, rfl, rfl⟩ := h
      simp only [setO] at hs
      obtain ⟨rfl, rfl⟩ := ov hs
      refine ⟨rfl, fun i => ?_⟩
      cases i <;> simp [SObj.out]
    | grow et' t l =>
      simp only [getO] at h
      injection h with h
      simp only [Prod.mk.injEq] at h
      obtain ⟨rfl, rfl, rfl, rfl⟩ := h
      simp only [setO] at hs
      split at hs
      · rename_i t' l'
        split at hs
        · rename_i e _
          subst e
          obtain ⟨rfl, rfl⟩ := ov hs
          refine ⟨rfl, fun i => ?_⟩
          have hl : 0 < l.length := ht
          cases i with
          | zero =>
            have hne : (l.length == 0) = false := by simp; exact List.ne_nil_of_length_pos hl
            simp [SObj.out, SV.cellsL, SV.cells, hob, hne]
          | succ i => simp
        · cases hs
      · cases hs
    | _ => cases h
  | o :: L, L', id + 1, g, et, esz, cs0, cs, ob, h, ht, hs, hob => by
    simp only [setO] at hs
    split at hs
    · rename_i ob' L1 hs1
      obtain ⟨rfl, rfl⟩ := ov hs
      obtain ⟨a1, a2⟩ := setO_spec (L := L) (id := id) h ht hs1 hob
      refine ⟨by simp [a1], fun i => ?_⟩
      cases i with
      | zero => simp
      | succ i => simpa using a2 i
    · cases hs

theorem setO_ok {L L' : List SObj} {id g et esz : Nat} {cs0 cs : List SV} {ob : Prop} (h : getO L id = some (g, et, esz, cs0)) (ht : isThere L id) (hs : setO L id cs = some (ob, L')) (hob : ob) :
    (outS L).set id (.cells g et esz (SV.cellsL cs)) = outS L' := by
  obtain ⟨a1, a2⟩ := setO_spec h ht hs hob
  exact store_ext (by simp [outS, Store.set, a1]) fun i => (a2 i).symm

/-! ### store -/
def svStore (tab : Tab) (L : List SObj) (t : TypeId) (p v : SV) : Option (Prop × List SObj) := match getT tab t, newOf v with
  | some ti, some new => match countC new ti.sz with
    | true => match p with
      | .ptr id g off => match getO L id with
        | some (g', _, _, cs) => match setP cs off new ti.sz with
          | some cs' => match setO L id cs' with
            | some (ob, L') => some (isThere L id ∧ g = g' ∧ ob, L')
            | none => none
          | none => none
        | none => none
      | .eptr id g off i esz c => match getO L id with
        | some (g', _, _, cs) => match setE cs off i esz c new ti.sz with
          | some (ob1, cs') => match setO L id cs' with
            | some (ob, L') => some (isThere L id ∧ g = g' ∧ ob1 ∧ ob, L')
            | none => none
          | none => none
        | none => none
      | _ => none
    | false => none
  | _, _ => none

theorem svStore_ok (hT : TabOK P tab) {L L' : List SObj} {t : TypeId} {p v : SV} {ob : Prop} (h : svStore tab L t p v = some (ob, L')) (hob : ob) : tvStore P (outS L) t p.out v.out = some (outS L') := by
  unfold svStore at h
  split at h
  · rename_i ti new hti hnew
    obtain ⟨n1, n2⟩ := newOf_ok hnew
    have hsz := tab_sz hT hti
    split at h
    · rename_i hc
      have hlen := countC_ok hc
      unfold tvStore
      simp only [hsz, n1]
      split at h
      · split at h
        · rename_i hg
          split at h
          · rename_i cs' hp
            split at h
            · rename_i hs
              obtain ⟨rfl, rfl⟩ := ov h
              obtain ⟨i1, rfl, i3⟩ := hob
              obtain ⟨s1, s2⟩ := setP_ok hp hlen
              simp only [SV.out, SV.cells, List.headD_cons, getO_ok hg i1]
              rw [if_pos ⟨hlen, by omega, n2⟩, s2, setO_ok hg i1 hs i3]
            · cases h
          · cases h
        · cases h
      · split at h
        · rename_i hg
          split at h
          · rename_i cs' hp
            split at h
            · rename_i hs
              obtain ⟨rfl, rfl⟩ := ov h
              obtain ⟨i1, rfl, i3, i4⟩ := hob
              obtain ⟨s1, s2⟩ := setE_ok hp i3 hlen
              simp only [SV.out, SV.cells, List.headD_cons, getO_ok hg i1]
              rw [if_pos ⟨hlen, by omega, n2⟩, s2, setO_ok hg i1 hs i4]
            · cases h
          · cases h
        · cases h
      · cases h
    · cases h
  · cases h
end
end Go.Sim
