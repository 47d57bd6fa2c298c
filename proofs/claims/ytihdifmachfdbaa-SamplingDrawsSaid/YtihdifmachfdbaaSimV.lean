/- A part of the proof: values and stores in plain Lean, and the rules by which a walk is taken. -/
import Derived.Test.YtihdifmachfdbaaSimU
set_option autoImplicit false
set_option linter.unusedSimpArgs false
set_option linter.unusedVariables false
namespace Go.Sim
open Go

/-! ### rows of symbols -/
def mkC : (t : Ty) → t.den → List SV
  | .i k, n => [.int k n]
  | .b, x => [.bool x]
  | .s, x => [.str x]
  | .l t, xs => [.row t xs]
  | .p x y, v => mkC x v.1 ++ mkC y v.2

theorem mkC_cells : ∀ (t : Ty) (x : t.den), SV.cellsL (mkC t x) = (enc t x).map .c
  | .i _, _ => rfl
  | .b, _ => rfl
  | .s, _ => rfl
  | .l _, _ => rfl
  | .p x y, v => by simp [mkC, enc, cellsL_append, mkC_cells x, mkC_cells y]

def asInt (k : IntKind) : List SV → Option (Int × List SV)
  | .int k' n :: r => match decide (k' = k) with
    | true => some (n, r)
    | false => none
  | _ => none
def asBool : List SV → Option (Bool × List SV)
  | .bool b :: r => some (b, r)
  | .tt :: r => some (true, r)
  | .ff :: r => some (false, r)
  | _ => none
def asStr : List SV → Option (ByteArray × List SV)
  | .str s :: r => some (s, r)
  | _ => none
def asRow (t : Ty) : List SV → Option (List t.den × List SV)
  | .row t' l :: r => match decEq t' t with
    | isTrue h => some (h ▸ l, r)
    | isFalse _ => none
  | _ => none
def asDen : (t : Ty) → List SV → Option (t.den × List SV)
  | .i k, l => asInt k l
  | .b, l => asBool l
  | .s, l => asStr l
  | .l t, l => asRow t l
  | .p x y, l => match asDen x l with
    | some (u, r) => match asDen y r with
      | some (v, r') => some ((u, v), r')
      | none => none
    | none => none

theorem asDen_cells : ∀ (t : Ty) (l r : List SV) (x : t.den), asDen t l = some (x, r) → SV.cellsL l = (enc t x).map .c ++ SV.cellsL r
  | .i k, l, r, x, h => by
    simp only [asDen] at h
    unfold asInt at h
    split at h
    · split at h
      · rename_i hk
        obtain ⟨rfl, rfl⟩ := ov h
        rw [of_decide_eq_true hk]
        rfl
      · cases h
    · cases h
  | .b, l, r, x, h => by
    simp only [asDen] at h
    unfold asBool at h
    split at h <;> first | (cases h; done) | (obtain ⟨rfl, rfl⟩ := ov h; rfl)
  | .s, l, r, x, h => by
    simp only [asDen] at h
    unfold asStr at h
    split at h <;> first | (cases h; done) | (obtain ⟨rfl, rfl⟩ := ov h; rfl)
  | .l t, l, r, x, h => by
    simp only [asDen] at h
    unfold asRow at h
    split at h
    · split at h
      · rename_i hk _
        subst hk
        obtain ⟨rfl, rfl⟩ := ov h
        rfl
      · cases h
    · cases h
  | .p x y, l, r, v, h => by
    simp only [asDen] at h
    split at h
    · rename_i x1 r1 h1
      split at h
      · rename_i x2 r2 h2
        obtain ⟨rfl, rfl⟩ := ov h
        rw [asDen_cells x _ _ _ h1, asDen_cells y _ _ _ h2]
        simp [enc]
      · cases h
    · cases h

def width : SV → Option Nat
  | .arr _ n _ => some n
  | .barr n _ => some n
  | .lst _ _ => none
  | _ => some 1
theorem width_cells {v : SV} {n : Nat} (h : width v = some n) : v.cells.length = n := by
  cases v <;> simp [width] at h <;> subst h <;> simp [SV.cells]

def dropC : List SV → Nat → Option (List SV)
  | cs, 0 => some cs
  | [], _ + 1 => none
  | v :: cs, o + 1 => match width v with
    | some w => match Nat.ble w (o + 1) with
      | true => dropC cs (o + 1 - w)
      | false => none
    | none => none
theorem dropC_ok : ∀ (cs : List SV) (o : Nat) (r : List SV), dropC cs o = some r → (SV.cellsL cs).drop o = SV.cellsL r ∧ o ≤ (SV.cellsL cs).length
  | cs, 0, r, h => by unfold dropC at h; injection h with h; subst h; exact ⟨rfl, Nat.zero_le _⟩
  | [], o + 1, r, h => by unfold dropC at h; cases h
  | v :: cs, o + 1, r, h => by
    unfold dropC at h
    split at h
    · rename_i w hw
      split at h
      · rename_i hle
        have hle := Nat.le_of_ble_eq_true hle
        obtain ⟨h1, h2⟩ := dropC_ok cs _ r h
        have hl := width_cells hw
        simp only [SV.cellsL]
        rw [List.drop_append, hl, List.drop_eq_nil_of_le (by omega), h1]
        simp
        omega
      · cases h
    · cases h

def takeC : List SV → Nat → Option (List SV)
  | _, 0 => some []
  | [], _ + 1 => none
  | v :: cs, o + 1 => match width v with
    | some w => match Nat.ble w (o + 1) with
      | true => match takeC cs (o + 1 - w) with
        | some r => some (v :: r)
        | none => none
      | false => none
    | none => none
theorem takeC_ok : ∀ (cs : List SV) (o : Nat) (r : List SV), takeC cs o = some r → (∀ rest, (SV.cellsL cs ++ rest).take o = SV.cellsL r) ∧ (SV.cellsL r).length = o ∧ o ≤ (SV.cellsL cs).length
  | cs, 0, r, h => by unfold takeC at h; injection h with h; subst h; simp [SV.cellsL]
  | [], o + 1, r, h => by unfold takeC at h; cases h
  | v :: cs, o + 1, r, h => by
    unfold takeC at h
    split at h
    · rename_i w hw
      split at h
      · rename_i hle
        have hle := Nat.le_of_ble_eq_true hle
        split at h
        · rename_i r' hr
          injection h with h
          subst h
          obtain ⟨h1, h2, h3⟩ := takeC_ok cs _ r' hr
          have hl := width_cells hw
          simp only [SV.cellsL]
          refine ⟨fun rest => ?_, by simp; omega, by simp; omega⟩
          rw [List.append_assoc, List.take_append, hl, List.take_of_length_le (by omega), h1]
        · cases h
      · cases h
    · cases h

def headC : List SV → Option SV
  | v :: _ => match v.single with
    | true => some v
    | false => none
  | [] => none
theorem headC_ok {cs : List SV} {v : SV} (h : headC cs = some v) : (SV.cellsL cs)[0]? = some v.out ∧ v.single = true := by
  unfold headC at h
  split at h
  · rename_i u l
    split at h
    · rename_i hs
      injection h with h
      subst h
      simp [SV.cellsL, single_cells hs, hs]
    · cases h
  · cases h

/-- The cells from the element i, cell c, of the row that stands first. -/
def elemC (cs : List SV) (i esz c : Nat) : Option (Prop × List SV) := match cs with
  | .arr k n f :: _ => match Nat.beq esz 1, Nat.beq c 0 with
    | true, true => some (i < n, [.int k (f i)])
    | _, _ => none
  | .barr n f :: _ => match Nat.beq esz 1, Nat.beq c 0 with
    | true, true => some (i < n, [.bool (f i)])
    | _, _ => none
  | .lst t l :: _ => match Nat.beq esz t.size with
    | true => match dropC (mkC t (l.getD i (dflt t))) c with
      | some r => some (i < l.length, r)
      | none => none
    | false => none
  | _ => none

theorem elemC_ok {cs : List SV} {i esz c : Nat} {ob : Prop} {r : List SV} (h : elemC cs i esz c = some (ob, r)) (hob : ob) : ∃ rest, (SV.cellsL cs).drop (i * esz + c) = SV.cellsL r ++ rest := by
  have key : ∀ (f : Nat → TV) (n : Nat) (l : List TV), i < n → ∃ rest, (((List.range n).map f) ++ l).drop i = [f i] ++ rest := fun f n l hi => by
    refine ⟨((((List.range n).map f) ++ l).drop (i + 1)), ?_⟩
    rw [List.singleton_append, List.drop_eq_getElem_cons (by simp; omega)]
    congr 1
    rw [List.getElem_append_left (by simpa using hi)]
    simp
  unfold elemC at h
  split at h
  · split at h
    · rename_i k n f _ h1 h2
      obtain ⟨rfl, rfl⟩ := ov h
      rw [Nat.eq_of_beq_eq_true h1, Nat.eq_of_beq_eq_true h2]
      simp only [SV.cellsL, SV.cells, Nat.mul_one, Nat.add_zero, List.append_nil]
      exact key _ _ _ hob
    · cases h
  · split at h
    · rename_i n f _ h1 h2
      obtain ⟨rfl, rfl⟩ := ov h
      rw [Nat.eq_of_beq_eq_true h1, Nat.eq_of_beq_eq_true h2]
      simp only [SV.cellsL, SV.cells, Nat.mul_one, Nat.add_zero, List.append_nil]
      exact key _ _ _ hob
    · cases h
  · rename_i t l cs'
    split at h
    · rename_i h1
      split at h
      · rename_i r' hr
        obtain ⟨rfl, rfl⟩ := ov h
        have h1 := Nat.eq_of_beq_eq_true h1
        subst h1
        obtain ⟨d1, d2⟩ := dropC_ok _ _ _ hr
        rw [← d1, mkC_cells]
        rw [mkC_cells, List.length_map, enc_len] at d2
        simp only [SV.cellsL, SV.cells]
        have e := encs_drop t l i
        have e0 : l.drop i = l.getD i (dflt t) :: l.drop (i + 1) := by
          rw [List.drop_eq_getElem_cons hob]
          simp [List.getD_eq_getElem?_getD, hob]
        rw [e0] at e
        have hlen : i * t.size + c ≤ ((encs t l).map TV.c).length := by
          rw [List.length_map, encs_len]
          have := Nat.mul_le_mul_right t.size (show i + 1 ≤ l.length from hob)
          rw [Nat.add_mul, Nat.one_mul] at this
          omega
        rw [List.drop_append_of_le_length hlen, ← List.drop_drop, ← List.map_drop, e]
        have e3 : encs t (l.getD i (dflt t) :: l.drop (i + 1)) = enc t (l.getD i (dflt t)) ++ encs t (l.drop (i + 1)) := by simp only [encs, List.flatMap_cons]
        rw [e3, List.map_append, List.drop_append_of_le_length (by rw [List.length_map, enc_len]; exact d2)]
        exact ⟨_, by rw [List.append_assoc]⟩
      · cases h
    · cases h
  · cases h

/-! ### objects, addresses -/
def getO : List SObj → Nat → Option (Nat × TypeId × Nat × List SV)
  | [], _ => none
  | o :: _, 0 => match o with
    | .obj g et esz cs => some (g, et, esz, cs)
    | .grow et t l => some (l.length, et, t.size, [.lst t l])
    | _ => none
  | _ :: L, i + 1 => getO L i
/-- Is the object there for sure? -/
def isThere : List SObj → Nat → Prop
  | [], _ => False
  | o :: _, 0 => match o with
    | .obj _ _ _ _ => True
    | .grow _ _ l => 0 < l.length
    | _ => False
  | _ :: L, i + 1 => isThere L i

theorem getO_ok : ∀ {L : List SObj} {id : Nat} {g et esz : Nat} {cs : List SV}, getO L id = some (g, et, esz, cs) → isThere L id → (outS L).at id g = some (et, esz, SV.cellsL cs)
  | [], id, g, et, esz, cs, h, _ => by cases h
  | o :: L, 0, g, et, esz, cs, h, hl => by
    simp only [getO] at h
    split at h
    · injection h with h
      simp only [Prod.mk.injEq] at h
      obtain ⟨rfl, rfl, rfl, rfl⟩ := h
      simp [Store.at, outS, SObj.out]
    · rename_i et' t l
      injection h with h
      simp only [Prod.mk.injEq] at h
      obtain ⟨rfl, rfl, rfl, rfl⟩ := h
      have hl' : 0 < l.length := hl
      have hne : (l.length == 0) = false := by simp; exact List.ne_nil_of_length_pos hl'
      simp [Store.at, outS, SObj.out, hne, SV.cellsL, SV.cells]
    · cases h
  | o :: L, id + 1, g, et, esz, cs, h, hl => by
    have := getO_ok (L := L) (id := id) h hl
    simpa [Store.at, outS] using this

/-- The cells from an address on. -/
def atP (L : List SObj) : SV → Option (Prop × List SV)
  | .ptr id g off => match getO L id with
    | some (g', _, _, cs) => match dropC cs off with
      | some r => some (isThere L id ∧ g = g', r)
      | none => none
    | none => none
  | .eptr id g off i esz c => match getO L id with
    | some (g', _, _, cs) => match dropC cs off with
      | some r0 => match elemC r0 i esz c with
        | some (ob, r) => some (isThere L id ∧ g = g' ∧ ob, r)
        | none => none
      | none => none
    | none => none
  | .rptr t l i c => match dropC (mkC t (l.getD i (dflt t))) c with
    | some r => some (i < l.length, r)
    | none => none
  | _ => none

def cellsAt (S : Store) : TV → Option (List TV)
  | .ptr id g off => match S.at id g with
    | some (_, _, cs) => some (cs.drop off)
    | none => none
  | .taddr cs => some (cs.map .c)
  | _ => none

theorem atP_ok {L : List SObj} {p : SV} {ob : Prop} {r : List SV} (h : atP L p = some (ob, r)) (hob : ob) : ∃ rest, cellsAt (outS L) p.out = some (SV.cellsL r ++ rest) := by
  unfold atP at h
  split at h
  · split at h
    · rename_i hg
      split at h
      · rename_i hd
        obtain ⟨rfl, rfl⟩ := ov h
        obtain ⟨h1, rfl⟩ := hob
        refine ⟨[], ?_⟩
        simp only [SV.out, SV.cells, List.headD_cons, cellsAt, getO_ok hg h1, List.append_nil, (dropC_ok _ _ _ hd).1]
      · cases h
    · cases h
  · rename_i id g off i esz c
    split at h
    · rename_i hg
      split at h
      · rename_i r0 hd
        split at h
        · rename_i he
          obtain ⟨rfl, rfl⟩ := ov h
          obtain ⟨h1, rfl, h3⟩ := hob
          obtain ⟨rest, hr⟩ := elemC_ok he h3
          refine ⟨rest, ?_⟩
          simp only [SV.out, SV.cells, List.headD_cons, cellsAt, getO_ok hg h1]
          rw [Nat.add_assoc, ← List.drop_drop, (dropC_ok _ _ _ hd).1, hr]
        · cases h
      · cases h
    · cases h
  · rename_i t l i c
    split at h
    · rename_i r0 hd
      obtain ⟨rfl, rfl⟩ := ov h
      have := elemC_ok (cs := [.lst t l]) (i := i) (esz := t.size) (c := c) (ob := i < l.length) (r := r0) (by simp only [elemC, Nat.beq_refl, hd]) hob
      obtain ⟨rest, hr⟩ := this
      refine ⟨rest, ?_⟩
      simp only [SV.cellsL, SV.cells, List.append_nil] at hr
      simp only [SV.out, SV.cells, List.headD_cons, cellsAt, List.map_drop, hr]
    · cases h
  · cases h

/-! ### load -/
def svLoad (tab : Tab) (L : List SObj) (t : TypeId) (p : SV) : Option (Prop × SV) := match getT tab t with
  | some ti => match atP L p with
    | some (ob, r) => match isAggK ti.kind with
      | true => match Nat.ble 1 ti.sz, takeC r ti.sz with
        | true, some l => some (ob, .agg l)
        | _, _ => none
      | false => match headC r with
        | some v => some (ob, v)
        | none => none
    | none => none
  | none => none

section
variable {P : Program} {tab : Tab}
theorem svLoad_ok (hT : TabOK P tab) {L : List SObj} {t : TypeId} {p v : SV} {ob : Prop} (h : svLoad tab L t p = some (ob, v)) (hob : ob) : tvLoad P (outS L) t p.out = some v.out := by
  unfold svLoad at h
  split at h
  · rename_i ti hti
    obtain ⟨⟨d, hd⟩, hag⟩ := tab_agg hT hti
    have hsz := tab_sz hT hti
    split at h
    · rename_i ob' r ha
      have key : ob' → (isAggK ti.kind = true → 1 ≤ ti.sz → ∀ l, takeC r ti.sz = some l → tvLoad P (outS L) t p.out = some (.agg (SV.cellsL l))) ∧ (isAggK ti.kind = false → ∀ v, headC r = some v → tvLoad P (outS L) t p.out = some v.out) := by
        intro hob'
        obtain ⟨rest, hr⟩ := atP_ok ha hob'
        unfold cellsAt at hr
        unfold tvLoad
        simp only [hd, hsz, hag]
        split at hr
        · rename_i id g off hp
          split at hr
          · rename_i et esz cs hat
            injection hr with hr
            refine ⟨fun hk hsp l hl => ?_, fun hk v hv => ?_⟩
            · obtain ⟨t1, t2, t3⟩ := takeC_ok _ _ _ hl
              simp only [hp, hat, hk, if_true]
              have hlen : off + ti.sz ≤ cs.length := by
                have := congrArg List.length hr
                simp at this
                omega
              rw [if_pos hlen, hr, t1]
            · simp only [hp, hat, hk, Bool.false_eq_true, if_false]
              have h0 := (headC_ok hv).1
              have : cs[off]? = (cs.drop off)[0]? := by simp
              rw [this, hr]
              cases hc : SV.cellsL r with
              | nil => rw [hc] at h0; simp at h0
              | cons y ys => rw [hc] at h0; simpa using h0
          · cases hr
        · rename_i cs hp
          injection hr with hr
          refine ⟨fun hk hsp l hl => ?_, fun hk v hv => ?_⟩
          · obtain ⟨t1, t2, t3⟩ := takeC_ok _ _ _ hl
            simp only [hp, hk, if_true]
            have hlen : ti.sz ≤ cs.length := by
              have := congrArg List.length hr
              simp at this
              omega
            rw [if_pos hlen, List.map_take, hr, t1]
          · simp only [hp, hk, Bool.false_eq_true, if_false]
            have h0 := (headC_ok hv).1
            have : (cs[0]?).map TV.c = (cs.map TV.c)[0]? := by simp
            rw [this, hr]
            cases hc : SV.cellsL r with
            | nil => rw [hc] at h0; simp at h0
            | cons y ys => rw [hc] at h0; simpa using h0
        · cases hr
      split at h
      · rename_i hk
        split at h
        · rename_i l hsp hl
          obtain ⟨rfl, rfl⟩ := ov h
          exact (key hob).1 hk (Nat.le_of_ble_eq_true hsp) l hl
        · cases h
      · rename_i hk
        split at h
        · rename_i v' hv
          obtain ⟨rfl, rfl⟩ := ov h
          exact (key hob).2 hk v' hv
        · cases h
    · cases h
  · cases h
end
end Go.Sim
