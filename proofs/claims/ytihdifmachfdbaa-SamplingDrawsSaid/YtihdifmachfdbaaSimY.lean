/- A part of the proof: values and stores in plain Lean, and the rules by which a walk is taken. -/
import Derived.Test.YtihdifmachfdbaaSimX
set_option autoImplicit false
set_option linter.unusedSimpArgs false
set_option linter.unusedVariables false
namespace Go.Sim
open Go

section
variable {P : Program} {tab : Tab}

/-- The type of symbols that a Go type has, if it has one. -/
def tyOf (tab : Tab) : Nat → TypeId → Option Ty
  | 0, _ => none
  | f + 1, t => match getT tab t with
    | some ti => match ti.kind with
      | .int k => some (.i k)
      | .bool => some .b
      | .str => some .s
      | .slice e => match tyOf tab f e with
        | some x => some (.l x)
        | none => none
      | .struct fs => tyFs (tyOf tab f) fs
      | _ => none
    | none => none
where
  tyFs (g : TypeId → Option Ty) : List (TypeId × Nat) → Option Ty
  | [] => none
  | [(t, _)] => g t
  | (t, _) :: fs => match g t, tyFs g fs with
    | some x, some y => some (.p x y)
    | _, _ => none

/-- The elements of a row that is written down. -/
def rowOf (ty : Ty) : Nat → List (Nat × SV) → Option (List ty.den)
  | _, [] => some []
  | k, (i, v) :: rest => match Nat.beq i k, newOf v with
    | true, some new => match asDen ty new with
      | some (x, []) => match rowOf ty (k + 1) rest with
        | some l => some (x :: l)
        | none => none
      | _ => none
    | _, _ => none
theorem rowOf_len {ty : Ty} : ∀ (parts : List (Nat × SV)) (k : Nat) (l : List ty.den), rowOf ty k parts = some l → l.length = parts.length
  | [], k, l, h => by simp only [rowOf] at h; injection h with h; subst h; rfl
  | (i, v) :: rest, k, l, h => by
    simp only [rowOf] at h
    split at h
    · split at h
      · split at h
        · rename_i l' hr
          injection h with h
          subst h
          simp [rowOf_len rest _ _ hr]
        · cases h
      · cases h
    · cases h
theorem fill_row {ty : Ty} : ∀ (parts : List (Nat × SV)) (k : Nat) (l : List ty.den) (A B : List TV), rowOf ty k parts = some l → A.length = k * ty.size → parts.length * ty.size ≤ B.length →
    tvFill (fun i => some (i * ty.size, ty.size)) (A ++ B) (parts.map fun p => (p.1, p.2.out)) = some (A ++ (encs ty l).map .c ++ B.drop (parts.length * ty.size))
  | [], k, l, A, B, h, hA, hB => by simp only [rowOf] at h; injection h with h; subst h; simp [tvFill, encs]
  | (i, v) :: rest, k, l, A, B, h, hA, hB => by
    simp only [rowOf] at h
    split at h
    · rename_i new hb hn
      split at h
      · rename_i x hx
        split at h
        · rename_i l' hr
          injection h with h
          subst h
          have hb := Nat.eq_of_beq_eq_true hb
          subst hb
          obtain ⟨n1, n2⟩ := newOf_ok hn
          have e := asDen_cells _ _ _ _ hx
          simp [SV.cellsL] at e
          have hl : (SV.cellsL new).length = ty.size := by rw [e, List.length_map, enc_len]
          simp only [List.length_cons, Nat.add_mul, Nat.one_mul] at hB
          simp only [List.map_cons, tvFill, n1]
          rw [if_pos ⟨hl, by simp; omega, n2⟩]
          have hs : splice (A ++ B) (i * ty.size) (SV.cellsL new) = (A ++ SV.cellsL new) ++ B.drop ty.size := by
            unfold splice
            rw [hl, List.take_append_of_le_length (by omega), List.take_of_length_le (by omega), List.drop_append, List.drop_eq_nil_of_le (by omega)]
            simp
            congr 1
            omega
          rw [hs, fill_row rest (i + 1) l' _ _ hr (by simp [hl, hA, Nat.add_mul]) (by simp; omega)]
          rw [e]
          have e4 : encs ty (x :: l') = enc ty x ++ encs ty l' := by simp only [encs, List.flatMap_cons]
          rw [e4]
          simp [List.append_assoc, Nat.add_mul]
          congr 1
          omega
        · cases h
      · cases h
    · cases h

def rowE (n : Nat) : Nat → List (Nat × SV) → Option (List SV)
  | _, [] => some []
  | k, (i, v) :: rest => match Nat.beq i k, newOf v with
    | true, some new => match countC new n, rowE n (k + 1) rest with
      | true, some l => some (new ++ l)
      | _, _ => none
    | _, _ => none
theorem fill_rowE {n : Nat} : ∀ (parts : List (Nat × SV)) (k : Nat) (l : List SV) (A B : List TV), rowE n k parts = some l → A.length = k * n → parts.length * n ≤ B.length →
    tvFill (fun i => some (i * n, n)) (A ++ B) (parts.map fun p => (p.1, p.2.out)) = some (A ++ SV.cellsL l ++ B.drop (parts.length * n))
  | [], k, l, A, B, h, hA, hB => by simp only [rowE] at h; injection h with h; subst h; simp [tvFill, SV.cellsL]
  | (i, v) :: rest, k, l, A, B, h, hA, hB => by
    simp only [rowE] at h
    split at h
    · rename_i new hb hn
      split at h
      · rename_i l' hc hr
        injection h with h
        subst h
        have hb := Nat.eq_of_beq_eq_true hb
        subst hb
        obtain ⟨n1, n2⟩ := newOf_ok hn
        have hl := countC_ok hc
        simp only [List.length_cons, Nat.add_mul, Nat.one_mul] at hB
        simp only [List.map_cons, tvFill, n1]
        rw [if_pos ⟨hl, by simp; omega, n2⟩]
        have hs : splice (A ++ B) (i * n) (SV.cellsL new) = (A ++ SV.cellsL new) ++ B.drop n := by
          unfold splice
          rw [hl, List.take_append_of_le_length (by omega), List.take_of_length_le (by omega), List.drop_append, List.drop_eq_nil_of_le (by omega)]
          simp
          congr 1
          omega
        rw [hs, fill_rowE rest (i + 1) l' _ _ hr (by simp [hl, hA, Nat.add_mul]) (by simp; omega), cellsL_append]
        simp [List.append_assoc, Nat.add_mul]
        congr 1
        omega
      · cases h
    · cases h

def svBuildSlice (tab : Tab) (L : List SObj) (t : TypeId) (n : Nat) (parts : List (Nat × SV)) : Option (Prop × SV × List SObj) := match kindOf tab t with
  | some (.slice e) => match getT tab e with
    | some ti => match Nat.beq parts.length n, Nat.ble 1 ti.sz, Nat.ble (n * ti.sz) 16777216, takeC ti.zero ti.sz with
      | true, true, true, some _ => match tyOf tab 6 e with
        | some ty => match Nat.beq ty.size ti.sz, rowOf ty 0 parts with
          | true, some l => some (True, .view L.length 0 0 n, L ++ [.obj 0 e ti.sz [.lst ty l]])
          | _, _ => match rowE ti.sz 0 parts with
            | some l => some (True, .view L.length 0 0 n, L ++ [.obj 0 e ti.sz l])
            | none => none
        | none => match rowE ti.sz 0 parts with
          | some l => some (True, .view L.length 0 0 n, L ++ [.obj 0 e ti.sz l])
          | none => none
      | _, _, _, _ => none
    | none => none
  | _ => none
theorem svBuildSlice_ok (hT : TabOK P tab) {L L' : List SObj} {t : TypeId} {n : Nat} {parts : List (Nat × SV)} {v : SV} {ob : Prop} (h : svBuildSlice tab L t n parts = some (ob, v, L')) :
    tvBuildSlice P (outS L) t n (parts.map fun p => (p.1, p.2.out)) = some (v.out, outS L') := by
  unfold svBuildSlice at h
  split at h
  · rename_i e hk
    obtain ⟨ti0, g1, g2⟩ := kind_get hk
    have hu := tab_slice hT g1 g2
    split at h
    · rename_i ti hti
      have hsz := tab_sz hT hti
      obtain ⟨z, hz, hc⟩ := tab_zero hT hti
      split at h
      · rename_i zz hn h1 hlim htk
        have hn := Nat.eq_of_beq_eq_true hn
        have h1 := Nat.le_of_ble_eq_true h1
        have hlim := Nat.le_of_ble_eq_true hlim
        have hz0 : 0 < z.length := by
          have := (takeC_ok _ _ _ htk).2.2
          rw [hc, List.length_map] at this
          omega
        have exp : ∀ l, rowE ti.sz 0 parts = some l → tvBuildSlice P (outS L) t n (parts.map fun p => (p.1, p.2.out)) = some ((SV.view L.length 0 0 n).out, outS (L ++ [.obj 0 e ti.sz l])) := fun l hl => by
          unfold tvBuildSlice
          simp only [hu, hsz, hz]
          rw [if_pos ⟨hz0, hlim⟩]
          have := fill_rowE parts 0 l [] (zrow z (n * ti.sz)) hl (by simp) (by rw [zrow_len, hn]; exact Nat.le_refl _)
          simp only [List.nil_append] at this
          rw [this, List.drop_eq_nil_of_le (by rw [zrow_len, hn]; exact Nat.le_refl _), List.append_nil]
          simp only
          rw [outS_push L (.obj 0 e ti.sz l) rfl]
          rfl
        split at h
        · rename_i ty hty
          split at h
          · rename_i l hb hr
            injection h with h
            simp only [Prod.mk.injEq] at h
            obtain ⟨_, rfl, rfl⟩ := h
            have hb := Nat.eq_of_beq_eq_true hb
            unfold tvBuildSlice
            simp only [hu, hsz, hz]
            rw [if_pos ⟨hz0, hlim⟩]
            have := fill_row parts 0 l [] (zrow z (n * ti.sz)) hr (by simp) (by rw [zrow_len, hn, hb]; exact Nat.le_refl _)
            simp only [List.nil_append] at this
            rw [hb] at this
            rw [this, List.drop_eq_nil_of_le (by rw [zrow_len, hn]; exact Nat.le_refl _), List.append_nil]
            simp only
            have e2 : (encs ty l).map TV.c = SV.cellsL [.lst ty l] := by simp [SV.cellsL, SV.cells]
            rw [e2, outS_push L (.obj 0 e ti.sz [.lst ty l]) rfl]
            rfl
          · split at h
            · rename_i l hl
              injection h with h
              simp only [Prod.mk.injEq] at h
              obtain ⟨_, rfl, rfl⟩ := h
              exact exp l hl
            · cases h
        · split at h
          · rename_i l hl
            injection h with h
            simp only [Prod.mk.injEq] at h
            obtain ⟨_, rfl, rfl⟩ := h
            exact exp l hl
          · cases h
      · cases h
    · cases h
  · cases h

def svMake (tab : Tab) (L : List SObj) (t : TypeId) (l c : SV) : Option (Prop × SV × List SObj) := match kindOf tab t, l, c with
  | some (.slice e), .int _ n, .int _ m => match getT tab e, tyOf tab 6 e with
    | some ti, some ty => match Nat.beq ty.size ti.sz, asDen ty ti.zero with
      | true, some (z, []) => some (0 ≤ n ∧ n ≤ m ∧ ti.bytes * m ≤ 281474976710656 ∧ m ≤ 281474976710656, .view L.length 0 0 n.toNat, L ++ [.obj 0 e ti.sz [.lst ty (List.replicate n.toNat z)]])
      | _, _ => none
    | _, _ => none
  | _, _, _ => none
theorem zrow_encs (ty : Ty) (x : ty.den) (n : Nat) : zrow (enc ty x) (n * ty.size) = (encs ty (List.replicate n x)).map .c := by
  apply List.ext_getElem
  · simp [zrow_len, encs_len]
  · intro i h1 h2
    rw [zrow_len] at h1
    have hp := Ty.size_pos ty
    have hq : i / ty.size < n := Nat.div_lt_of_lt_mul (by rw [Nat.mul_comm]; exact h1)
    have hr : i % ty.size < ty.size := Nat.mod_lt _ hp
    have := encs_get ty (List.replicate n x) (i := i / ty.size) (c := i % ty.size) (by simpa using hq) hr
    have ei : i / ty.size * ty.size + i % ty.size = i := by rw [Nat.mul_comm]; exact Nat.div_add_mod _ _
    rw [ei] at this
    have hgd : (List.replicate n x).getD (i / ty.size) (dflt ty) = x := by simp [List.getD_eq_getElem?_getD, hq]
    rw [hgd] at this
    simp only [zrow, List.getElem_map, List.getElem_range, enc_len, List.getD_eq_getElem?_getD]
    rw [← this]
    have hlt : i < (encs ty (List.replicate n x)).length := by rw [encs_len]; simpa using h1
    rw [List.getElem?_eq_getElem hlt]
    rfl
theorem svMake_ok (hT : TabOK P tab) {L L' : List SObj} {t : TypeId} {l c v : SV} {ob : Prop} (h : svMake tab L t l c = some (ob, v, L')) (hob : ob) : tvMake P (outS L) t l.out c.out = some (v.out, outS L') := by
  unfold svMake at h
  split at h
  · rename_i e k1 n k2 m hk
    obtain ⟨ti0, g1, g2⟩ := kind_get hk
    have hu := tab_slice hT g1 g2
    split at h
    · rename_i ti ty hti hty
      split at h
      · rename_i z hb hz
        injection h with h
        simp only [Prod.mk.injEq] at h
        obtain ⟨rfl, rfl, rfl⟩ := h
        have hb := Nat.eq_of_beq_eq_true hb
        obtain ⟨zs, hzs, hc⟩ := tab_zero hT hti
        have ec := asDen_cells _ _ _ _ hz
        simp [SV.cellsL] at ec
        have hzs' : zs = enc ty z := by
          rw [hc] at ec
          have inj : ∀ (a b : List CV), a.map TV.c = b.map TV.c → a = b := fun a => by
            induction a with
            | nil => intro b h; cases b <;> simp at h ⊢
            | cons x a ih =>
              intro b h
              cases b with
              | nil => simp at h
              | cons y b => simp at h; rw [h.1, ih b h.2]
          exact inj _ _ ec
        obtain ⟨o1, o2, o3, o4⟩ := hob
        simp only [SV.out, SV.cells, List.headD_cons, tvMake, hu, tab_sz hT hti, tab_bytes hT hti, hzs]
        rw [if_pos ⟨o1, o2, o3, o4, by rw [hzs', enc_len]; exact Ty.size_pos ty⟩]
        have e2 : zrow zs (n.toNat * ti.sz) = SV.cellsL [.lst ty (List.replicate n.toNat z)] := by
          rw [hzs', ← hb, zrow_encs]
          simp [SV.cellsL, SV.cells]
        rw [e2, outS_push L (.obj 0 e ti.sz [.lst ty (List.replicate n.toNat z)]) rfl]
        rfl
      · cases h
    · cases h
  · cases h

/-! ### choices -/
def optB : SV → Option (Bool × Bool)
  | .opt c v => match asB v with
    | some b => some (c, b)
    | none => none
  | v => match asB v with
    | some b => some (true, b)
    | none => none
theorem optB_out {v : SV} {b : Bool} (h : optB v = some (true, b)) : v.out = .c (.bool b) := by
  unfold optB at h
  split at h
  · split at h
    · rename_i u b' hb
      obtain ⟨rfl, rfl⟩ := ov h
      have := asB_out hb
      simpa [SV.out, SV.cells] using this
    · cases h
  · split at h
    · rename_i b' hb
      obtain ⟨_, rfl⟩ := ov h
      exact asB_out hb
    · cases h
def pickV (c : Bool) (x y : SV) : Option (Prop × SV) := match x, y with
  | .tt, y => match optB y with
    | some (cy, b) => some (c = false → cy = true, .bool (c || b))
    | none => none
  | x, .ff => match optB x with
    | some (cx, b) => some (c = true → cx = true, .bool (c && b))
    | none => none
  | x, y => match optB x, optB y with
    | some (cx, a), some (cy, b) => some ((c = true → cx = true) ∧ (c = false → cy = true), .bool (bif c then a else b))
    | _, _ => none
theorem pickV_ok {c : Bool} {x y v : SV} {ob : Prop} (h : pickV c x y = some (ob, v)) (hob : ob) : (bif c then x.out else y.out) = v.out := by
  unfold pickV at h
  split at h
  · split at h
    · rename_i cy b hy
      obtain ⟨rfl, rfl⟩ := ov h
      cases c with
      | true => rfl
      | false => rw [hob rfl] at hy; exact optB_out hy
    · cases h
  · split at h
    · rename_i cx b hx
      obtain ⟨rfl, rfl⟩ := ov h
      cases c with
      | false => rfl
      | true => rw [hob rfl] at hx; exact optB_out hx
    · cases h
  · split at h
    · rename_i cx a cy b hx hy
      obtain ⟨rfl, rfl⟩ := ov h
      cases c with
      | true => rw [hob.1 rfl] at hx; exact optB_out hx
      | false => rw [hob.2 rfl] at hy; exact optB_out hy
    · cases h
def svPick (c x y : SV) : Option (Prop × SV) := match c with
  | .tt => some (True, x)
  | .ff => some (True, y)
  | .bool b => pickV b x y
  | .opt g (.bool b) => match pickV b x y with
    | some (ob, v) => some (g = true ∧ ob, v)
    | none => none
  | _ => none
theorem svPick_ok {c x y v : SV} {ob : Prop} (h : svPick c x y = some (ob, v)) (hob : ob) : ∃ b, c.out = .c (.bool b) ∧ (bif b then x.out else y.out) = v.out := by
  unfold svPick at h
  split at h
  · obtain ⟨_, rfl⟩ := ov h; exact ⟨true, rfl, rfl⟩
  · obtain ⟨_, rfl⟩ := ov h; exact ⟨false, rfl, rfl⟩
  · exact ⟨_, rfl, pickV_ok h hob⟩
  · rename_i g b
    split at h
    · rename_i ob' v' hp
      obtain ⟨rfl, rfl⟩ := ov h
      obtain ⟨rfl, h2⟩ := hob
      exact ⟨b, rfl, pickV_ok hp h2⟩
    · cases h
  · cases h

/-! ### an operation -/
def ret1 (r : Option SV) (L : List SObj) : Option (Prop × SV × List SObj) := match r with
  | some v => some (True, v, L)
  | none => none
def ret2 (r : Option (Prop × SV)) (L : List SObj) : Option (Prop × SV × List SObj) := match r with
  | some (ob, v) => some (ob, v, L)
  | none => none
def ret3 (r : Option (SV × List SObj)) : Option (Prop × SV × List SObj) := match r with
  | some (v, L) => some (True, v, L)
  | none => none
def ret4 (r : Option (Prop × List SObj)) : Option (Prop × SV × List SObj) := match r with
  | some (ob, L) => some (ob, .junk, L)
  | none => none

def svIface : SV → Option SV
  | .opt .. | .arr .. | .barr .. | .lst .. => none
  | v => some v

def evalV (tab : Tab) (m : Bool) (V : Nat → SV) (L : List SObj) : Op → Option (Prop × SV × List SObj)
  | .move x => some (True, evS V x, L)
  | .assign x => some (True, evS V x, L)
  | .pick c x y => ret2 (svPick (evS V c) (evS V x) (evS V y)) L
  | .binOp op t x y _ => ret2 (svBin tab m op t (evS V x) (evS V y)) L
  | .unOp op _ x => ret2 (svUn m op (evS V x)) L
  | .convert s d x => ret2 (svConv tab m s d (evS V x)) L
  | .extract x i => ret1 (svExtract (evS V x) i) L
  | .nilCheck x => ret1 (svNilC (evS V x)) L
  | .field t x f => ret1 (svField tab t (evS V x) f) L
  | .index t x i => ret2 (svIndex tab t (evS V x) (evS V i)) L
  | .fieldAddr t x f => ret1 (svFieldAddr tab t (evS V x) f) L
  | .indexAddr t x i => ret2 (svIndexAddr tab L t (evS V x) (evS V i)) L
  | .slice t x lo hi none => ret2 (svSlice tab L t (evS V x) (lo.map (evS V)) (hi.map (evS V))) L
  | .load t x => ret2 (svLoad tab L t (evS V x)) L
  | .store t x v => ret4 (svStore tab L t (evS V x) (evS V v))
  | .alloc e => ret3 (svAlloc tab L e)
  | .box e v => ret3 (svBox L e (evS V v))
  | .build t parts => ret1 (svBuild tab t (parts.toList.map fun p => (p.1, evS V p.2))) L
  | .buildSlice t n parts => svBuildSlice tab L t n (parts.toList.map fun p => (p.1, evS V p.2))
  | .makeSlice t l c => svMake tab L t (evS V l) (evS V c)
  | .makeFunc f l1 l2 => some (True, .fn f (l1.toList.map (evS V)) (l2.toList.map (evS V)), L)
  | .call c => match c.callee with
    | .builtin .len => match c.args.toList, c.argTypes.toList with
      | [x], [t] => ret1 (svLen tab t (evS V x)) L
      | _, _ => none
    | .builtin .max => ret1 (svMax (c.args.toList.map (evS V))) L
    | .builtin .min => ret1 (svMin (c.args.toList.map (evS V))) L
    | _ => none
  | _ => none

theorem ret1_ok {r : Option SV} {L L' : List SObj} {v : SV} {ob : Prop} (h : ret1 r L = some (ob, v, L')) : r = some v ∧ L' = L := by
  unfold ret1 at h
  split at h
  · injection h with h; simp only [Prod.mk.injEq] at h; obtain ⟨_, rfl, rfl⟩ := h; exact ⟨rfl, rfl⟩
  · cases h
theorem ret2_ok {r : Option (Prop × SV)} {L L' : List SObj} {v : SV} {ob : Prop} (h : ret2 r L = some (ob, v, L')) : r = some (ob, v) ∧ L' = L := by
  unfold ret2 at h
  split at h
  · injection h with h; simp only [Prod.mk.injEq] at h; obtain ⟨rfl, rfl, rfl⟩ := h; exact ⟨rfl, rfl⟩
  · cases h
theorem ret3_ok {r : Option (SV × List SObj)} {L' : List SObj} {v : SV} {ob : Prop} (h : ret3 r = some (ob, v, L')) : r = some (v, L') := by
  unfold ret3 at h
  split at h
  · injection h with h; simp only [Prod.mk.injEq] at h; obtain ⟨_, rfl, rfl⟩ := h; rfl
  · cases h
theorem ret4_ok {r : Option (Prop × List SObj)} {L' : List SObj} {v : SV} {ob : Prop} (h : ret4 r = some (ob, v, L')) : r = some (ob, L') ∧ v = .junk := by
  unfold ret4 at h
  split at h
  · injection h with h; simp only [Prod.mk.injEq] at h; obtain ⟨rfl, rfl, rfl⟩ := h; exact ⟨rfl, rfl⟩
  · cases h

theorem mapEv (V : Nat → SV) (l : List Operand) : l.map (ev (outT V)) = (l.map (evS V)).map SV.out := by
  simp only [List.map_map]
  exact List.map_congr_left fun x _ => evS_out V x
theorem partsEv (V : Nat → SV) (ps : Array (Nat × Operand)) : evParts (outT V) ps = (ps.toList.map fun p => (p.1, evS V p.2)).map fun p => (p.1, p.2.out) := by
  unfold evParts
  simp only [List.map_map]
  exact List.map_congr_left fun p _ => by simp [evS_out]

theorem evalV_ok (hT : TabOK P tab) {m : Bool} {V : Nat → SV} {L L' : List SObj} {op : Op} {ob : Prop} {v : SV} (h : evalV tab m V L op = some (ob, v, L')) (hob : ob) : evalPrim P (outT V) (outS L) op = some (v.out, outS L') := by
  unfold evalV at h
  split at h
  · injection h with h; simp only [Prod.mk.injEq] at h; obtain ⟨_, rfl, rfl⟩ := h
    simp [evalPrim, evS_out]
  · injection h with h; simp only [Prod.mk.injEq] at h; obtain ⟨_, rfl, rfl⟩ := h
    simp [evalPrim, evS_out]
  · obtain ⟨h1, rfl⟩ := ret2_ok h
    obtain ⟨b, e1, e2⟩ := svPick_ok h1 hob
    simp only [evalPrim, evS_out, e1, e2]
  · obtain ⟨h1, rfl⟩ := ret2_ok h
    simp only [evalPrim, evS_out, svBin_ok hT h1 hob, Option.map_some]
  · obtain ⟨h1, rfl⟩ := ret2_ok h
    simp only [evalPrim, evS_out, svUn_ok h1 hob, Option.map_some]
  · obtain ⟨h1, rfl⟩ := ret2_ok h
    simp only [evalPrim, evS_out, svConv_ok hT h1 hob, Option.map_some]
  · obtain ⟨h1, rfl⟩ := ret1_ok h
    simp only [evalPrim, evS_out, svExtract_ok h1, Option.map_some]
  · obtain ⟨h1, rfl⟩ := ret1_ok h
    simp only [evalPrim, evS_out, svNilC_ok h1, Option.map_some]
  · obtain ⟨h1, rfl⟩ := ret1_ok h
    simp only [evalPrim, evS_out, svField_ok hT h1, Option.map_some]
  · obtain ⟨h1, rfl⟩ := ret2_ok h
    simp only [evalPrim, evS_out, svIndex_ok hT h1 hob, Option.map_some]
  · obtain ⟨h1, rfl⟩ := ret1_ok h
    simp only [evalPrim, evS_out, svFieldAddr_ok hT h1, Option.map_some]
  · obtain ⟨h1, rfl⟩ := ret2_ok h
    simp only [evalPrim, evS_out, svIndexAddr_ok hT h1 hob, Option.map_some]
  · rename_i t x lo hi
    obtain ⟨h1, rfl⟩ := ret2_ok h
    have e : ∀ o : Option Operand, o.map (ev (outT V)) = (o.map (evS V)).map SV.out := fun o => by cases o <;> simp [evS_out]
    simp only [evalPrim, evS_out, e, svSlice_ok hT h1 hob, Option.map_some]
  · obtain ⟨h1, rfl⟩ := ret2_ok h
    simp only [evalPrim, evS_out, svLoad_ok hT h1 hob, Option.map_some]
  · obtain ⟨h1, rfl⟩ := ret4_ok h
    simp only [evalPrim, evS_out, svStore_ok hT h1 hob, Option.map_some]
    rfl
  · have h1 := ret3_ok h
    simp only [evalPrim, svAlloc_ok hT h1]
  · have h1 := ret3_ok h
    simp only [evalPrim, evS_out, svBox_ok h1]
  · obtain ⟨h1, rfl⟩ := ret1_ok h
    simp only [evalPrim, partsEv, svBuild_ok hT h1, Option.map_some]
  · simp only [evalPrim, partsEv, svBuildSlice_ok hT h]
  · simp only [evalPrim, evS_out, svMake_ok hT h hob]
  · injection h with h; simp only [Prod.mk.injEq] at h; obtain ⟨_, rfl, rfl⟩ := h
    simp only [evalPrim, mapEv, SV.out, SV.cells, List.headD_cons, outL_map]
  · rename_i c
    obtain ⟨callee, args, ats⟩ := c
    simp only at h
    split at h
    · split at h
      · rename_i x t hx ht
        obtain ⟨h1, rfl⟩ := ret1_ok h
        simp only [evalPrim, hx, ht, evS_out, svLen_ok hT h1, Option.map_some]
      · cases h
    · obtain ⟨h1, rfl⟩ := ret1_ok h
      simp only [evalPrim, mapEv, svMax_ok h1, Option.map_some]
    · obtain ⟨h1, rfl⟩ := ret1_ok h
      simp only [evalPrim, mapEv, svMin_ok h1, Option.map_some]
    · cases h
  · cases h
end
end Go.Sim
