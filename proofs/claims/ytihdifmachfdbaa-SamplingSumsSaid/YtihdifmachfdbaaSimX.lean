/- A part of the proof: values and stores in plain Lean, and the rules by which a walk is taken. -/
import Derived.Test.YtihdifmachfdbaaSimW
set_option autoImplicit false
set_option linter.unusedSimpArgs false
set_option linter.unusedVariables false
namespace Go.Sim
open Go

section
variable {P : Program} {tab : Tab}

def szT (tab : Tab) (t : TypeId) : Option Nat := match getT tab t with
  | some ti => some ti.sz
  | none => none
theorem szT_ok (hT : TabOK P tab) {t : TypeId} {n : Nat} (h : szT tab t = some n) : szOf P t = some n := by
  unfold szT at h
  split at h
  · rename_i ti e
    injection h with h
    subst h
    exact tab_sz hT e
  · cases h

def fieldT (tab : Tab) (t : TypeId) (f : Nat) : Option (TypeId × Nat × Nat) := match getT tab t with
  | some ti => match ti.kind with
    | .struct fs => match fs[f]? with
      | some (ft, off) => match szT tab ft with
        | some n => some (ft, off, n)
        | none => none
      | none => none
    | _ => none
  | none => none
theorem fieldT_ok (hT : TabOK P tab) {t ft : TypeId} {f off n : Nat} (h : fieldT tab t f = some (ft, off, n)) :
    ∃ fs : Array Field, P.underlying t = some (.struct fs) ∧ ∃ fd, fs[f]? = some fd ∧ fd.type = ft ∧ fd.offset = off ∧ szOf P ft = some n := by
  unfold fieldT at h
  split at h
  · rename_i ti e
    split at h
    · rename_i fs hk
      obtain ⟨fs', h1, h2⟩ := tab_struct hT e hk
      split at h
      · rename_i ft' off' hf
        split at h
        · rename_i m hs
          injection h with h
          simp only [Prod.mk.injEq] at h
          obtain ⟨rfl, rfl, rfl⟩ := h
          rw [h2, List.getElem?_map] at hf
          simp only [Option.map_eq_some_iff, Prod.mk.injEq] at hf
          obtain ⟨fd, g1, g2, g3⟩ := hf
          exact ⟨fs', h1, fd, by simpa using g1, g2, g3, szT_ok hT hs⟩
        · cases h
      · cases h
    · cases h
  · cases h

def svFieldAddr (tab : Tab) (t : TypeId) (x : SV) (f : Nat) : Option SV := match fieldT tab t f with
  | some (_, off, n) => match Nat.beq n 0 with
    | true => none
    | false => match x with
      | .ptr id g o => some (.ptr id g (o + off))
      | .eptr id g o i esz c => some (.eptr id g o i esz (c + off))
      | .rptr t l i c => some (.rptr t l i (c + off))
      | _ => none
  | none => none
theorem svFieldAddr_ok (hT : TabOK P tab) {t : TypeId} {x v : SV} {f : Nat} (h : svFieldAddr tab t x f = some v) : tvFieldAddr P t x.out f = some v.out := by
  unfold svFieldAddr at h
  split at h
  · rename_i ft off n hf
    obtain ⟨fs, h1, fd, h2, h3, h4, h5⟩ := fieldT_ok hT hf
    subst h3 h4
    split at h
    · cases h
    · rename_i hn
      have hn0 : ¬ n = 0 := fun e => by subst e; simp at hn
      unfold tvFieldAddr
      simp only [h1, h2, h5, if_neg hn0]
      split at h <;> first | (cases h; done) | skip
      · injection h with h; subst h; rfl
      · injection h with h; subst h; simp [SV.out, SV.cells, Nat.add_assoc]
      · injection h with h; subst h; simp [SV.out, SV.cells, Nat.add_assoc]
  · cases h

def svIndexAddr (tab : Tab) (L : List SObj) (t : TypeId) (x i : SV) : Option (Prop × SV) := match kindOf tab t, i with
  | some (.slice e), .int _ n => match szT tab e with
    | some sz => match x with
      | .row ty l => match Nat.beq ty.size sz with
        | true => some (0 ≤ n ∧ n < l.length, .rptr ty l n.toNat 0)
        | false => none
      | .view id g off len => match getO L id with
        | some (g', _, _, _) => some (isThere L id ∧ g = g' ∧ 0 ≤ n ∧ n < len, .eptr id g off n.toNat sz 0)
        | none => none
      | .gview id len => match getO L id with
        | some (g', _, _, _) => some (isThere L id ∧ len = g' ∧ 0 ≤ n ∧ n < len, .eptr id len 0 n.toNat sz 0)
        | none => none
      | _ => none
    | none => none
  | some (.arr len e), .int _ n => match szT tab e with
    | some sz => match x with
      | .ptr id g off => some (0 ≤ n ∧ n < len, .eptr id g off n.toNat sz 0)
      | _ => none
    | none => none
  | _, _ => none
theorem svIndexAddr_ok (hT : TabOK P tab) {L : List SObj} {t : TypeId} {x i v : SV} {ob : Prop} (h : svIndexAddr tab L t x i = some (ob, v)) (hob : ob) : tvIndexAddr P (outS L) t x.out i.out = some v.out := by
  unfold svIndexAddr at h
  split at h
  · rename_i e k n hk
    obtain ⟨ti, g1, g2⟩ := kind_get hk
    have hu := tab_slice hT g1 g2
    split at h
    · rename_i sz hs
      have hsz := szT_ok hT hs
      split at h
      · rename_i ty l
        split at h
        · rename_i hb
          obtain ⟨rfl, rfl⟩ := ov h
          have hb := Nat.eq_of_beq_eq_true hb
          simp only [SV.out, SV.cells, List.headD_cons, tvIndexAddr, hu, hsz]
          rw [if_pos hob, hb, Nat.add_zero]
        · cases h
      · split at h
        · rename_i hg
          obtain ⟨rfl, rfl⟩ := ov h
          obtain ⟨i1, rfl, i3⟩ := hob
          simp only [SV.out, SV.cells, List.headD_cons, tvIndexAddr, hu, hsz, getO_ok hg i1]
          rw [if_pos i3, Nat.add_zero]
        · cases h
      · rename_i id len
        split at h
        · rename_i hg
          obtain ⟨rfl, rfl⟩ := ov h
          obtain ⟨i1, rfl, i3⟩ := hob
          have hne : (len == 0) = false := by
            simp
            omega
          simp only [SV.out, SV.cells, List.headD_cons, tvIndexAddr, hu, hsz, hne, cond_false, getO_ok hg i1]
          rw [if_pos i3, Nat.add_zero, Nat.zero_add]
        · cases h
      · cases h
    · cases h
  · rename_i len e k n hk
    obtain ⟨ti, g1, g2⟩ := kind_get hk
    have hu := tab_arr hT g1 g2
    split at h
    · rename_i sz hs
      have hsz := szT_ok hT hs
      split at h
      · obtain ⟨rfl, rfl⟩ := ov h
        simp only [SV.out, SV.cells, List.headD_cons, tvIndexAddr, hu, hsz]
        rw [if_pos hob, Nat.add_zero]
      · cases h
    · cases h
  · cases h

/-! parts of values -/
def partS (tab : Tab) (t : TypeId) (cs : List SV) : Option SV := match getT tab t with
  | some ti => match isAggK ti.kind with
    | true => match takeC cs ti.sz with
      | some l => some (.agg l)
      | none => none
    | false => headC cs
  | none => none
theorem partS_ok (hT : TabOK P tab) {t : TypeId} {cs : List SV} {v : SV} {l : List TV} {off : Nat} (h : partS tab t cs = some v) {rest : List TV} (hl : l.drop off = SV.cellsL cs ++ rest) (hle : off ≤ l.length) : tvPart P t l off = some v.out := by
  unfold partS at h
  split at h
  · rename_i ti hti
    obtain ⟨⟨d, hd⟩, hag⟩ := tab_agg hT hti
    have hsz := tab_sz hT hti
    unfold tvPart
    simp only [hd, hsz, hag]
    split at h
    · rename_i hk
      split at h
      · rename_i r hr
        injection h with h
        subst h
        obtain ⟨t1, t2, t3⟩ := takeC_ok _ _ _ hr
        have := congrArg List.length hl
        simp at this
        simp only [hk, if_true]
        rw [if_pos (by omega), hl, t1]
        rfl
      · cases h
    · rename_i hk
      simp only [hk, Bool.false_eq_true, if_false]
      have h0 := (headC_ok h).1
      have : l[off]? = (l.drop off)[0]? := by simp
      rw [this, hl]
      cases hc : SV.cellsL cs with
      | nil => rw [hc] at h0; simp at h0
      | cons y ys => rw [hc] at h0; simpa using h0
  · cases h

def svField (tab : Tab) (t : TypeId) (x : SV) (f : Nat) : Option SV := match fieldT tab t f, x with
  | some (ft, off, _), .agg l => match dropC l off with
    | some r => partS tab ft r
    | none => none
  | _, _ => none
theorem svField_ok (hT : TabOK P tab) {t : TypeId} {x v : SV} {f : Nat} (h : svField tab t x f = some v) : tvField P t x.out f = some v.out := by
  unfold svField at h
  split at h
  · rename_i ft off n l hf
    obtain ⟨fs, h1, fd, h2, h3, h4, h5⟩ := fieldT_ok hT hf
    subst h3 h4
    split at h
    · rename_i r hr
      obtain ⟨d1, d2⟩ := dropC_ok _ _ _ hr
      simp only [SV.out, SV.cells, List.headD_cons, tvField, h1, h2]
      exact partS_ok hT h (rest := []) (by rw [d1, List.append_nil]) d2
    · cases h
  · cases h

def svIndex (tab : Tab) (t : TypeId) (x i : SV) : Option (Prop × SV) := match kindOf tab t, x, i with
  | some .str, .str s, .int _ n => some (0 ≤ n ∧ n < s.size, .int .u8 ((s.data.getD n.toNat 0).toNat : Int))
  | some (.arr len e), .agg l, .int _ n => match szT tab e with
    | some sz => match elemC l n.toNat sz 0 with
      | some (ob, r) => match partS tab e r with
        | some v => some (ob ∧ 0 ≤ n ∧ n < len, v)
        | none => none
      | none => none
    | none => none
  | _, _, _ => none
theorem svIndex_ok (hT : TabOK P tab) {t : TypeId} {x i v : SV} {ob : Prop} (h : svIndex tab t x i = some (ob, v)) (hob : ob) : tvIndex P t x.out i.out = some v.out := by
  unfold svIndex at h
  split at h
  · rename_i s k n hk
    obtain ⟨ti, g1, g2⟩ := kind_get hk
    obtain ⟨rfl, rfl⟩ := ov h
    simp only [SV.out, SV.cells, List.headD_cons, tvIndex, tab_str hT g1 g2]
    rw [dif_pos hob]
    have hlt : n.toNat < s.data.size := by
      have : s.data.size = s.size := rfl
      omega
    have e0 : s.data.getD n.toNat 0 = s.data[n.toNat] := by rw [Array.getD_eq_getD_getElem?, Array.getElem?_eq_getElem hlt]; rfl
    rw [e0]
    rfl
  · rename_i len e l k n hk
    obtain ⟨ti, g1, g2⟩ := kind_get hk
    split at h
    · rename_i sz hs
      have hsz := szT_ok hT hs
      split at h
      · rename_i ob1 r he
        split at h
        · rename_i v' hp
          obtain ⟨rfl, rfl⟩ := ov h
          obtain ⟨i1, i2⟩ := hob
          obtain ⟨rest, hr⟩ := elemC_ok he i1
          rw [Nat.add_zero] at hr
          simp only [SV.out, SV.cells, List.headD_cons, tvIndex, tab_arr hT g1 g2, hsz]
          rw [if_pos i2]
          refine partS_ok hT hp hr ?_
          unfold partS at hp
          split at hp
          · rename_i ti' _
            rcases Nat.lt_or_ge (SV.cellsL l).length (n.toNat * sz) with hlt | hge
            · exfalso
              rw [List.drop_eq_nil_of_le (by omega)] at hr
              have hr0 : SV.cellsL r = [] := by
                have := congrArg List.length hr
                simp at this
                exact List.eq_nil_of_length_eq_zero (by omega)
              unfold elemC at he
              split at he
              · split at he
                · obtain ⟨rfl, rfl⟩ := ov he
                  simp [SV.cellsL, SV.cells] at hr0
                · cases he
              · split at he
                · obtain ⟨rfl, rfl⟩ := ov he
                  simp [SV.cellsL, SV.cells] at hr0
                · cases he
              · rename_i t' l' cs'
                split at he
                · rename_i hb
                  split at he
                  · rename_i r' hr'
                    obtain ⟨rfl, rfl⟩ := ov he
                    have hb := Nat.eq_of_beq_eq_true hb
                    subst hb
                    have := Nat.mul_le_mul_right t'.size (show n.toNat + 1 ≤ l'.length from i1)
                    rw [Nat.add_mul, Nat.one_mul] at this
                    simp [SV.cellsL, SV.cells, encs_len] at hlt
                    omega
                  · cases he
                · cases he
              · cases he
            · exact hge
          · cases hp
        · cases h
      · cases h
    · cases h
  · cases h

def svExtract (x : SV) (i : Nat) : Option SV := match x with
  | .tup l => l[i]?
  | _ => none
theorem svExtract_ok {x v : SV} {i : Nat} (h : svExtract x i = some v) : tvExtract x.out i = some v.out := by
  unfold svExtract at h
  split at h
  · rename_i l
    simp only [SV.out, SV.cells, List.headD_cons, tvExtract, outL_map, List.getElem?_map]
    rw [h]
    rfl
  · cases h

def svNilC : SV → Option SV
  | .ptr id g o => some (.ptr id g o)
  | .eptr id g o i e c => some (.eptr id g o i e c)
  | .rptr t l i c => some (.rptr t l i c)
  | .fn (.func f) a b => some (.fn (.func f) a b)
  | _ => none
theorem svNilC_ok {x v : SV} (h : svNilC x = some v) : tvNil x.out = some v.out := by
  unfold svNilC at h
  split at h <;> first | (cases h; done) | (injection h with h; subst h; rfl)

/-! ### slices -/
def bndS (d : Nat) : Option SV → Option (Prop × Nat)
  | none => some (True, d)
  | some (.int _ n) => some (0 ≤ n, n.toNat)
  | some _ => none
theorem bndS_ok {d n : Nat} {x : Option SV} {ob : Prop} (h : bndS d x = some (ob, n)) (hob : ob) : boundOf d (x.map SV.out) = some n := by
  unfold bndS at h
  split at h
  · obtain ⟨rfl, rfl⟩ := ov h; rfl
  · obtain ⟨rfl, rfl⟩ := ov h
    simp [SV.out, SV.cells, boundOf]
    exact hob
  · cases h

def cutRow {α : Type} (l : List α) (lo hi : Option SV) (a b : Nat) : List α := match lo, hi with
  | none, none => l
  | none, some _ => l.take b
  | some _, none => l.drop a
  | some _, some _ => (l.drop a).take (b - a)
theorem cutRow_eq {α : Type} {l : List α} {lo hi : Option SV} {a b : Nat} {o1 o2 : Prop} (h1 : bndS 0 lo = some (o1, a)) (h2 : bndS l.length hi = some (o2, b)) : cutRow l lo hi a b = (l.drop a).take (b - a) := by
  cases lo with
  | none =>
    simp only [bndS] at h1
    obtain ⟨_, rfl⟩ := ov h1
    cases hi with
    | none => simp only [bndS] at h2; obtain ⟨_, rfl⟩ := ov h2; simp [cutRow]
    | some y => simp [cutRow]
  | some x =>
    cases hi with
    | none => simp only [bndS] at h2; obtain ⟨_, rfl⟩ := ov h2; simp only [cutRow]; rw [List.take_of_length_le (by simp)]
    | some y => simp [cutRow]

def subN (lo : Option SV) (b a : Nat) : Nat := match lo with
  | none => b
  | some _ => b - a
def addN (lo : Option SV) (off a sz : Nat) : Nat := match lo with
  | none => off
  | some _ => off + a * sz
theorem subN_eq {lo : Option SV} {a b : Nat} {o : Prop} (h : bndS 0 lo = some (o, a)) : subN lo b a = b - a := by
  cases lo with
  | none => simp only [bndS] at h; obtain ⟨_, rfl⟩ := ov h; rfl
  | some x => rfl
theorem addN_eq {lo : Option SV} {a off sz : Nat} {o : Prop} (h : bndS 0 lo = some (o, a)) : addN lo off a sz = off + a * sz := by
  cases lo with
  | none => simp only [bndS] at h; obtain ⟨_, rfl⟩ := ov h; simp [addN]
  | some x => rfl

def svSlice (tab : Tab) (L : List SObj) (t : TypeId) (x : SV) (lo hi : Option SV) : Option (Prop × SV) := match kindOf tab t with
  | some .str => match x with
    | .str s => match bndS 0 lo, bndS s.size hi with
      | some (o1, a), some (o2, b) => some (o1 ∧ o2 ∧ a ≤ b ∧ b ≤ s.size, .str (s.extract a b))
      | _, _ => none
    | _ => none
  | some (.slice e) => match szT tab e with
    | some sz => match x with
      | .row ty l => match Nat.beq ty.size sz, bndS 0 lo, bndS l.length hi with
        | true, some (o1, a), some (o2, b) => some (o1 ∧ o2 ∧ a ≤ b ∧ b ≤ l.length, .row ty (cutRow l lo hi a b))
        | _, _, _ => none
      | .view id g off len => match getO L id, bndS 0 lo, bndS len hi with
        | some (g', _, esz, _), some (o1, a), some (o2, b) => match Nat.beq esz sz with
          | true => some (isThere L id ∧ g = g' ∧ o1 ∧ o2 ∧ a ≤ b ∧ b ≤ len, .view id g (addN lo off a sz) (subN lo b a))
          | false => none
        | _, _, _ => none
      | _ => none
    | none => none
  | some (.arr n e) => match szT tab e with
    | some sz => match x with
      | .ptr id g off => match getO L id, bndS 0 lo, bndS n hi with
        | some (g', _, esz, cs), some (o1, a), some (o2, b) => match Nat.beq esz 0, dropC cs off with
          | true, some _ => some (isThere L id ∧ g = g' ∧ o1 ∧ o2 ∧ a ≤ b ∧ b ≤ n ∧ off + a * sz ≤ (SV.cellsL cs).length, .view id g (addN lo off a sz) (subN lo b a))
          | _, _ => none
        | _, _, _ => none
      | _ => none
    | none => none
  | _ => none
theorem svSlice_ok (hT : TabOK P tab) {L : List SObj} {t : TypeId} {x v : SV} {lo hi : Option SV} {ob : Prop} (h : svSlice tab L t x lo hi = some (ob, v)) (hob : ob) :
    tvSlice P (outS L) t x.out (lo.map SV.out) (hi.map SV.out) = some v.out := by
  unfold svSlice at h
  split at h
  · rename_i hk
    obtain ⟨ti, g1, g2⟩ := kind_get hk
    have hu := tab_str hT g1 g2
    split at h
    · split at h
      · rename_i h1 h2
        obtain ⟨rfl, rfl⟩ := ov h
        obtain ⟨i1, i2, i3⟩ := hob
        simp only [SV.out, SV.cells, List.headD_cons, tvSlice, hu, bndS_ok h1 i1, bndS_ok h2 i2]
        rw [if_pos i3]
      · cases h
    · cases h
  · rename_i e hk
    obtain ⟨ti, g1, g2⟩ := kind_get hk
    have hu := tab_slice hT g1 g2
    split at h
    · rename_i sz hs
      have hsz := szT_ok hT hs
      split at h
      · rename_i ty l
        split at h
        · rename_i a b hb h1 h2
          obtain ⟨rfl, rfl⟩ := ov h
          obtain ⟨i1, i2, i3, i4⟩ := hob
          have hb := Nat.eq_of_beq_eq_true hb
          simp only [SV.out, SV.cells, List.headD_cons, tvSlice, hu, hsz]
          have e1 := bndS_ok h1 i1
          have e2 := bndS_ok h2 i2
          simp only [e1, e2]
          rw [if_pos ⟨i3, i4⟩, cutRow_eq h1 h2, ← hb, encs_drop, encs_take, List.length_take, List.length_drop, Nat.min_eq_left (by omega)]
        · cases h
      · split at h
        · rename_i hg h1 h2
          split at h
          · rename_i hb
            obtain ⟨rfl, rfl⟩ := ov h
            obtain ⟨i1, rfl, i3, i4, i5, i6⟩ := hob
            have hb := Nat.eq_of_beq_eq_true hb
            have e1 := bndS_ok h1 i3
            have e2 := bndS_ok h2 i4
            simp only [SV.out, SV.cells, List.headD_cons, tvSlice, hu, hsz, getO_ok hg i1]
            simp only [e1, e2]
            rw [if_pos ⟨i5, i6, hb⟩, addN_eq h1, subN_eq h1]
          · cases h
        · cases h
      · cases h
    · cases h
  · rename_i n e hk
    obtain ⟨ti, g1, g2⟩ := kind_get hk
    have hu := tab_arr hT g1 g2
    split at h
    · rename_i sz hs
      have hsz := szT_ok hT hs
      split at h
      · split at h
        · rename_i hg h1 h2
          split at h
          · rename_i hb hd
            obtain ⟨rfl, rfl⟩ := ov h
            obtain ⟨i1, rfl, i3, i4, i5, i6, i7⟩ := hob
            have hb := Nat.eq_of_beq_eq_true hb
            have e1 := bndS_ok h1 i3
            have e2 := bndS_ok h2 i4
            simp only [SV.out, SV.cells, List.headD_cons, tvSlice, hu, hsz, getO_ok hg i1]
            simp only [e1, e2]
            rw [if_pos ⟨i5, i6, hb, i7⟩, addN_eq h1, subN_eq h1]
          · cases h
        · cases h
      · cases h
    · cases h
  · cases h

def svLen (tab : Tab) (t : TypeId) (x : SV) : Option SV := match kindOf tab t with
  | some (.slice _) => match x with
    | .row _ l => some (.int .i64 (l.length : Nat))
    | .view _ _ _ n => some (.int .i64 n)
    | .gview _ n => some (.int .i64 n)
    | .cv .nilsl => some (.int .i64 0)
    | _ => none
  | some .str => match x with
    | .str s => some (.int .i64 s.size)
    | _ => none
  | some (.arr n _) => some (.int .i64 n)
  | _ => none
theorem svLen_ok (hT : TabOK P tab) {S : Store} {t : TypeId} {x v : SV} (h : svLen tab t x = some v) : tvLen P S t x.out = some v.out := by
  unfold svLen at h
  split at h
  · rename_i e hk
    obtain ⟨ti, g1, g2⟩ := kind_get hk
    have hu := tab_slice hT g1 g2
    unfold tvLen
    simp only [hu]
    split at h <;> first | (cases h; done) | skip
    · injection h with h; subst h; rfl
    · injection h with h; subst h; rfl
    · rename_i id n
      injection h with h; subst h
      cases n <;> rfl
    · injection h with h; subst h; rfl
  · rename_i hk
    obtain ⟨ti, g1, g2⟩ := kind_get hk
    have hu := tab_str hT g1 g2
    unfold tvLen
    simp only [hu]
    split at h <;> first | (cases h; done) | skip
    injection h with h; subst h; rfl
  · rename_i n e hk
    obtain ⟨ti, g1, g2⟩ := kind_get hk
    have hu := tab_arr hT g1 g2
    injection h with h
    subst h
    unfold tvLen
    simp only [hu]
    rfl
  · cases h

theorem mx_max (a b : Int) : mx a b = max a b := by unfold mx; omega
theorem mn_min (a b : Int) : mn a b = min a b := by unfold mn; omega

def foldS (f : Int → Int → Int) : IntKind → Int → List SV → Option SV
  | k, a, [] => some (.int k a)
  | k, a, .int _ b :: l => foldS f k (f a b) l
  | _, _, _ => none
theorem foldS_ok (f g : Int → Int → Int) (hfg : ∀ a b, f a b = g a b) : ∀ (l : List SV) (k : IntKind) (a : Int) (v : SV), foldS g k a l = some v → tvFold f (.c (.int k a)) (l.map SV.out) = some v.out
  | [], k, a, v, h => by simp only [foldS] at h; injection h with h; subst h; rfl
  | x :: l, k, a, v, h => by
    cases x <;> simp only [foldS] at h <;> first | (cases h; done) | skip
    rename_i k' b
    have := foldS_ok f g hfg l k _ v h
    simp only [List.map_cons, SV.out, SV.cells, List.headD_cons, tvFold]
    rw [hfg]
    exact this
def svMax : List SV → Option SV
  | .int k a :: l => foldS max k a l
  | _ => none
def svMin : List SV → Option SV
  | .int k a :: l => foldS min k a l
  | _ => none
theorem svMax_ok {l : List SV} {v : SV} (h : svMax l = some v) : tvMax (l.map SV.out) = some v.out := by
  unfold svMax at h
  split at h
  · exact foldS_ok mx max mx_max _ _ _ _ h
  · cases h
theorem svMin_ok {l : List SV} {v : SV} (h : svMin l = some v) : tvMin (l.map SV.out) = some v.out := by
  unfold svMin at h
  split at h
  · exact foldS_ok mn min mn_min _ _ _ _ h
  · cases h

/-! ### new objects -/
theorem outS_push (L : List SObj) (o : SObj) {a : AObj} (h : o.out = some a) : (outS L).push a = outS (L ++ [o]) := by
  refine store_ext (by simp [outS, Store.push]) fun i => ?_
  have h1 : ((outS L).push a).get i = if i = L.length then some a else (outS L).get i := rfl
  rw [h1]
  by_cases e : i = L.length
  · subst e; simp [outS, h]
  · rw [if_neg e]
    simp only [outS]
    rcases Nat.lt_or_ge i L.length with hl | hl
    · rw [List.getElem?_append_left hl]
    · rw [List.getElem?_append_right hl, List.getElem?_eq_none hl, List.getElem?_eq_none (by simp; omega)]

def svAlloc (tab : Tab) (L : List SObj) (e : TypeId) : Option (SV × List SObj) := match getT tab e with
  | some ti => some (.ptr L.length 0 0, L ++ [.obj 0 e 0 ti.zero])
  | none => none
theorem svAlloc_ok (hT : TabOK P tab) {L L' : List SObj} {e : TypeId} {v : SV} (h : svAlloc tab L e = some (v, L')) : tvAlloc P (outS L) e = some (v.out, outS L') := by
  unfold svAlloc at h
  split at h
  · rename_i ti hti
    obtain ⟨rfl, rfl⟩ := ov h
    obtain ⟨z, hz, hc⟩ := tab_zero hT hti
    unfold tvAlloc
    simp only [hz, ← hc]
    rw [outS_push L (.obj 0 e 0 ti.zero) rfl]
    rfl
  · cases h

def svBox (L : List SObj) (e : TypeId) (x : SV) : Option (SV × List SObj) := match newOf x with
  | some l => some (.ptr L.length 0 0, L ++ [.obj 0 e 0 l])
  | none => none
theorem svBox_ok {L L' : List SObj} {e : TypeId} {x v : SV} (h : svBox L e x = some (v, L')) : tvBox (outS L) e x.out = some (v.out, outS L') := by
  unfold svBox at h
  split at h
  · rename_i l hl
    obtain ⟨rfl, rfl⟩ := ov h
    obtain ⟨n1, n2⟩ := newOf_ok hl
    unfold tvBox
    rw [n1, if_pos n2, outS_push L (.obj 0 e 0 l) rfl]
    rfl
  · cases h

def svFill (place : Nat → Option (Nat × Nat)) : List SV → List (Nat × SV) → Option (List SV)
  | cs, [] => some cs
  | cs, (i, v) :: rest => match place i, newOf v with
    | some (off, n), some new => match countC new n, setP cs off new n with
      | true, some cs' => svFill place cs' rest
      | _, _ => none
    | _, _ => none
theorem svFill_ok {place place' : Nat → Option (Nat × Nat)} (hp : ∀ i q, place i = some q → place' i = some q) : ∀ (parts : List (Nat × SV)) (cs cs' : List SV), svFill place cs parts = some cs' →
    tvFill place' (SV.cellsL cs) (parts.map fun p => (p.1, p.2.out)) = some (SV.cellsL cs')
  | [], cs, cs', h => by simp only [svFill] at h; injection h with h; subst h; rfl
  | (i, v) :: rest, cs, cs', h => by
    simp only [svFill] at h
    split at h
    · rename_i off n new h1 h2
      split at h
      · rename_i c1 hc hs
        obtain ⟨n1, n2⟩ := newOf_ok h2
        have hl := countC_ok hc
        obtain ⟨s1, s2⟩ := setP_ok hs hl
        simp only [List.map_cons, tvFill, hp _ _ h1, n1]
        rw [if_pos ⟨hl, by omega, n2⟩, s2]
        exact svFill_ok hp rest _ _ h
      · cases h
    · cases h

def placeS (tab : Tab) (t : TypeId) (i : Nat) : Option (Nat × Nat) := match fieldT tab t i with
  | some (_, off, n) => some (off, n)
  | none => none

def svBuild (tab : Tab) (t : TypeId) (parts : List (Nat × SV)) : Option SV := match getT tab t with
  | some ti => match ti.kind with
    | .struct fs => match fs.all fun f => (szT tab f.1).isSome with
      | true => match svFill (placeS tab t) ti.zero parts with
        | some cs => some (.agg cs)
        | none => none
      | false => none
    | _ => none
  | none => none
theorem svBuild_ok (hT : TabOK P tab) {t : TypeId} {parts : List (Nat × SV)} {v : SV} (h : svBuild tab t parts = some v) : tvBuild P t (parts.map fun p => (p.1, p.2.out)) = some v.out := by
  unfold svBuild at h
  split at h
  · rename_i ti hti
    split at h
    · rename_i fs hk
      split at h
      · rename_i hall
        split at h
        · rename_i cs hf
          injection h with h
          subst h
          obtain ⟨fs', h1, h2⟩ := tab_struct hT hti hk
          obtain ⟨z, hz, hc⟩ := tab_zero hT hti
          have hps : ∃ ps, placesOf P fs' = some ps ∧ ∀ i q, placeS tab t i = some q → ps[i]? = some q := by
            have key : ∀ l : List Field, (∀ f ∈ l, (szT tab f.type).isSome) → ∃ ps, (l.mapM fun f => (P.info? f.type).map fun i => (f.offset, i.size)) = some ps ∧ ∀ (i : Nat) (fd : Field) (n : Nat), l[i]? = some fd → szOf P fd.type = some n → ps[i]? = some (fd.offset, n) := by
              intro l
              induction l with
              | nil => intro _; exact ⟨[], rfl, fun i fd n h => by simp at h⟩
              | cons f l ih =>
                intro hl
                obtain ⟨ps, e1, e2⟩ := ih fun f hf => hl f (by simp [hf])
                have hs := hl f (by simp)
                cases hs' : szT tab f.type with
                | none => rw [hs'] at hs; simp at hs
                | some n =>
                  have hz := szT_ok hT hs'
                  unfold szOf at hz
                  simp only [Option.map_eq_some_iff] at hz
                  obtain ⟨ii, hi, hn⟩ := hz
                  refine ⟨(f.offset, ii.size) :: ps, by simp [List.mapM_cons, hi, e1], fun i fd m hfd hm => ?_⟩
                  cases i with
                  | zero =>
                    simp at hfd
                    subst hfd
                    unfold szOf at hm
                    rw [hi] at hm
                    simp at hm
                    subst hm
                    rfl
                  | succ i => simpa using e2 i fd m (by simpa using hfd) hm
            obtain ⟨ps, e1, e2⟩ := key fs'.toList fun f hf => by
              simp only [List.all_eq_true] at hall
              exact hall (f.type, f.offset) (by rw [h2]; exact List.mem_map.2 ⟨f, hf, rfl⟩)
            refine ⟨ps, e1, fun i q hq => ?_⟩
            unfold placeS at hq
            split at hq
            · rename_i ft off n hft
              injection hq with hq
              subst hq
              obtain ⟨fs2, g1, fd, g2, g3, g4, g5⟩ := fieldT_ok hT hft
              rw [h1] at g1
              simp at g1
              subst g1
              rw [← g4]
              exact e2 i fd n (by simpa using g2) (by rw [g3]; exact g5)
            · cases hq
          obtain ⟨ps, e1, e2⟩ := hps
          unfold tvBuild
          simp only [h1, e1, hz]
          rw [← hc, svFill_ok e2 _ _ _ hf]
          rfl
        · cases h
      · cases h
    · cases h
  · cases h
end
end Go.Sim
