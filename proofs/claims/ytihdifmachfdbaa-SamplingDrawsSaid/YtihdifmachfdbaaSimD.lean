/- A part of the proof: values and stores in plain Lean, and the rules by which a walk is taken. -/
import Derived.Test.YtihdifmachfdbaaSimC
set_option autoImplicit false
set_option linter.unusedSimpArgs false
set_option linter.unusedVariables false
namespace Go.Sim
open Go

/-! ### nil, bools: what asks the type -/
def tvBinT (P : Program) (op : BinOp) (t : TypeId) (x y : TV) : Option TV :=
  match x, y with
  | .c (.bool a), .c (.bool b) => match P.underlying t with
    | some .bool => tvBin op (.c (.bool a)) (.c (.bool b))
    | _ => none
  | .c .nilsl, .c .nilsl => nil2 P op t true
  | .c (.sl (_ + 1) _), .c .nilsl => nil2 P op t false
  | .view _ _ _ _, .c .nilsl => nil2 P op t false
  | .c .nilptr, .c .nilptr => ptr2 P op t true
  | .ptr _ _ _, .c .nilptr => ptr2 P op t false
  | .taddr _, .c .nilptr => ptr2 P op t false
  | x, y => tvBin op x y
where
  nil2 (P : Program) (op : BinOp) (t : TypeId) (r : Bool) : Option TV := match P.underlying t with
    | some (.slice _) => match op with
      | .eql => some (.c (.bool r))
      | .neq => some (.c (.bool (!r)))
      | _ => none
    | _ => none
  ptr2 (P : Program) (op : BinOp) (t : TypeId) (r : Bool) : Option TV := match P.underlying t with
    | some (.pointer _) => match op with
      | .eql => some (.c (.bool r))
      | .neq => some (.c (.bool (!r)))
      | _ => none
    | _ => none

section
variable {P : Program} {N : Nat} {F : Nat → Prop} {φ : Env} {T : Nat → TV} {S : Store} {a : Act} {w : World} {M : Nat → Prop}

theorem run_equal_slice {t e : TypeId} (hu : P.underlying t = some (.slice e)) (x : Option Addr) (n c : Nat) : (Op.equal t (.slice x n c) (.slice none 0 0)).run P w = .ok x.isNone w := by
  show (Op.equalIn (9999 + 1) t _ _).run P w = _
  rw [Op.equalIn]
  cases x <;> simp only [Sem.run_bind, run_underlying hu, Result.andThen_ok, Sem.run_pure, Option.isNone]

theorem run_equal_ptr {t e : TypeId} (hu : P.underlying t = some (.pointer e)) (x : Option Addr) : (Op.equal t (.pointer x) (.pointer none)).run P w = .ok x.isNone w := by
  show (Op.equalIn (9999 + 1) t _ _).run P w = _
  rw [Op.equalIn]
  cases x <;> simp only [Sem.run_bind, run_underlying hu, Result.andThen_ok, Sem.run_pure, Option.isNone]

theorem eqGuard_slice (op : BinOp) (t : TypeId) (x y : Operand) (a b : Option Addr) (n c m d : Nat) : (eqGuard op t x y (.slice a n c) (.slice b m d)).run P w = .ok () w := by
  unfold eqGuard
  cases op <;> simp
theorem eqGuard_ptr (op : BinOp) (t : TypeId) (x y : Operand) (a b : Option Addr) : (eqGuard op t x y (.pointer a) (.pointer b)).run P w = .ok () w := by
  unfold eqGuard
  cases op <;> simp

theorem nil2_ok {op : BinOp} {t : TypeId} {xo yo : Operand} {v : TV} {b : Bool} {x : Option Addr} {n c : Nat} (h : tvBinT.nil2 P op t b = some v) (hb : x.isNone = b) :
    ∃ z, (do eqGuard op t xo yo (.slice x n c) (.slice none 0 0); binOp op t (.slice x n c) (.slice none 0 0) : Sem Value).run P w = .ok z w ∧ TRep w M φ S v z := by
  unfold tvBinT.nil2 at h
  split at h
  · rename_i e hu
    simp only [Sem.run_bind, eqGuard_slice, Result.andThen_ok]
    split at h <;> simp at h <;> subst h <;> refine ⟨_, ?_, mk_bool⟩ <;> subst hb
    · simp only [binOp, Sem.run_bind, run_equal_slice hu, Result.andThen_ok, Sem.run_pure]
    · simp only [binOp, Sem.run_bind, run_equal_slice hu, Result.andThen_ok, Sem.run_pure]
  · simp at h

theorem ptr2_ok {op : BinOp} {t : TypeId} {xo yo : Operand} {v : TV} {b : Bool} {x : Option Addr} (h : tvBinT.ptr2 P op t b = some v) (hb : x.isNone = b) :
    ∃ z, (do eqGuard op t xo yo (.pointer x) (.pointer none); binOp op t (.pointer x) (.pointer none) : Sem Value).run P w = .ok z w ∧ TRep w M φ S v z := by
  unfold tvBinT.ptr2 at h
  split at h
  · rename_i e hu
    simp only [Sem.run_bind, eqGuard_ptr, Result.andThen_ok]
    split at h <;> simp at h <;> subst h <;> refine ⟨_, ?_, mk_bool⟩ <;> subst hb
    · simp only [binOp, Sem.run_bind, run_equal_ptr hu, Result.andThen_ok, Sem.run_pure]
    · simp only [binOp, Sem.run_bind, run_equal_ptr hu, Result.andThen_ok, Sem.run_pure]
  · simp at h

theorem tvBinT_ok {op : BinOp} {t : TypeId} {xo yo : Operand} {vx vy v : TV} {x y : Value} (h : tvBinT P op t vx vy = some v) (hx : TRep w M φ S vx x) (hy : TRep w M φ S vy y) :
    ∃ z, (do eqGuard op t xo yo x y; binOp op t x y : Sem Value).run P w = .ok z w ∧ TRep w M φ S v z := by
  unfold tvBinT at h
  split at h
  · split at h
    · rename_i hu
      exact tvBin_ok h hx hy fun _ _ _ _ => hu
    · simp at h
  · obtain rfl := rep_nilsl hx
    obtain rfl := rep_nilsl hy
    exact nil2_ok h rfl
  · obtain rfl := rep_nilsl hy
    cases hx with
    | c v x hx => cases hx <;> exact nil2_ok h rfl
  · obtain rfl := rep_nilsl hy
    cases hx with
    | view id g off len a cap o hcap he h1 h2 h3 =>
      obtain ⟨b, f, rfl⟩ := he
      exact nil2_ok h rfl
  · obtain rfl := rep_nilptr hx
    obtain rfl := rep_nilptr hy
    exact ptr2_ok h rfl
  · obtain rfl := rep_nilptr hy
    cases hx
    exact ptr2_ok h rfl
  · obtain rfl := rep_nilptr hy
    cases hx
    exact ptr2_ok h rfl
  · refine tvBin_ok h hx hy fun a b ha hb => ?_
    rename_i h1 _ _ _ _ _ _
    exact absurd hb (h1 a b ha)

/-! ### unary, conversions -/
def tvUn (op : UnOp) (x : TV) : Option TV := match op, x with
  | .neg, .c (.int k n) => some (.c (.int k (k.wrap (0 - n))))
  | .xor, .c (.int k n) => some (.c (.int k (bitsI .xor k (if k.signed then -1 else k.max) n)))
  | .not, .c (.bool b) => some (.c (.bool (!b)))
  | _, _ => none

theorem tvUn_ok {op : UnOp} {vx v : TV} {x : Value} (h : tvUn op vx = some v) (hx : TRep w M φ S vx x) : ∃ z, (Op.unary op x).run P w = .ok z w ∧ TRep w M φ S v z := by
  unfold tvUn at h
  split at h <;> simp at h <;> subst h
  · obtain rfl := rep_int hx
    refine ⟨_, ?_, mk_int⟩
    simp [Op.unary, Op.intArith]
  · obtain rfl := rep_int hx
    refine ⟨_, ?_, mk_int⟩
    simp [Op.unary, Op.intBits, bitsI]
  · obtain rfl := rep_bool hx
    refine ⟨_, ?_, mk_bool⟩
    simp [Op.unary]

def tvConv (P : Program) (s d : TypeId) (x : TV) : Option TV := match P.underlying s, P.underlying d, x with
  | some _, some (.int k), .c (.int _ n) => some (.c (.int k (k.wrap n)))
  | some _, some .string, .c (.str b) => some (.c (.str b))
  | _, _, _ => none

theorem tvConv_ok {s d : TypeId} {vx v : TV} {x : Value} (h : tvConv P s d vx = some v) (hx : TRep w M φ S vx x) : ∃ z, (convert s d x).run P w = .ok z w ∧ TRep w M φ S v z := by
  unfold tvConv at h
  split at h
  · rename_i k _ n hs hd
    simp at h
    subst h
    obtain rfl := rep_int hx
    refine ⟨_, ?_, mk_int⟩
    simp only [convert, Sem.run_bind, run_underlying hs, run_underlying hd, Result.andThen_ok]
    simp [Conv.intToInt]
  · rename_i b hs hd
    simp at h
    subst h
    obtain rfl := rep_str hx
    refine ⟨_, ?_, mk_str⟩
    simp only [convert, Sem.run_bind, run_underlying hs, run_underlying hd, Result.andThen_ok]
    rename_i d0
    cases d0 <;> simp
  · simp at h

def tvExtract (x : TV) (i : Nat) : Option TV := match x with
  | .tup l => l[i]?
  | _ => none

theorem tvExtract_ok {i : Nat} {vx v : TV} {x : Value} (h : tvExtract vx i = some v) (hx : TRep w M φ S vx x) : ∃ z, (Instr.extract x i).run P w = .ok z w ∧ TRep w M φ S v z := by
  unfold tvExtract at h
  split at h
  · rename_i l
    cases hx with
    | tup l cs hl hr =>
      obtain ⟨hi, rfl⟩ := List.getElem?_eq_some_iff.1 h
      have hc : cs[i]? = some cs[i] := by simp
      exact ⟨cs[i], by simp [Instr.extract, hc], hr i hi _ hc⟩
  · simp at h

def tvNil (x : TV) : Option TV := match x with
  | .ptr id g o => some (.ptr id g o)
  | .taddr cs => some (.taddr cs)
  | .fn (.func f) l1 l2 => some (.fn (.func f) l1 l2)
  | _ => none

/-! ### structs by value, strings -/
def aggT (P : Program) (t : TypeId) : Bool := match P.underlying t with
  | some (.struct _) | some (.array _ _) => true
  | _ => false

def szOf (P : Program) (t : TypeId) : Option Nat := (P.info? t).map (·.size)

theorem run_isAgg {t : TypeId} {d : TypeDesc} (h : P.underlying t = some d) : (isAgg t).run P w = .ok (aggT P t) w := by
  unfold isAgg aggT
  simp only [Sem.run_bind, run_underlying h, Result.andThen_ok, h]
  cases d <;> rfl

theorem run_szOf {t : TypeId} {n : Nat} (h : szOf P t = some n) : (sizeOf t).run P w = .ok n w := by
  unfold szOf at h
  cases hi : P.info? t with
  | none => simp [hi] at h
  | some i =>
    rw [run_sizeOf w hi]
    simp [hi] at h
    simp [Program.cellsOf, hi, h]

/-- A part of an aggregate: type, cells, offset. -/
def tvPart (P : Program) (t : TypeId) (cs : List TV) (off : Nat) : Option TV := match P.underlying t, szOf P t with
  | some _, some n => if aggT P t then (if off + n ≤ cs.length then some (.agg ((cs.drop off).take n)) else none) else cs[off]?
  | _, _ => none

theorem tvPart_ok {t : TypeId} {l : List TV} {cs : Array Value} {off : Nat} {v : TV} (h : tvPart P t l off = some v) (hl : l.length = cs.size)
    (hr : ∀ i (hi : i < l.length) v, cs[i]? = some v → TRep w M φ S l[i] v) : ∃ z, (part t cs off).run P w = .ok z w ∧ TRep w M φ S v z := by
  unfold tvPart at h
  split at h
  · rename_i d n hu hn
    unfold part
    simp only [Sem.run_bind, run_isAgg hu, Result.andThen_ok]
    split at h
    · rename_i hagg
      split at h
      · rename_i hle
        simp at h
        subst h
        refine ⟨.agg (cs.extract off (off + n)), by simp [hagg, run_szOf hn], ?_⟩
        refine .agg _ _ (by simp; omega) fun i hi v hv => ?_
        simp at hi
        have : ((l.drop off).take n)[i]'(by simpa using hi) = l[off + i]'(by omega) := by simp
        rw [this]
        refine hr (off + i) (by omega) v ?_
        rw [Array.getElem?_extract] at hv
        split at hv
        · exact hv
        · simp at hv
      · simp at h
    · rename_i hagg
      simp only [Bool.not_eq_true] at hagg
      obtain ⟨hi, rfl⟩ := List.getElem?_eq_some_iff.1 h
      have hc : cs[off]? = some cs[off] := by simp
      exact ⟨cs[off], by simp [hagg, hc], hr off hi _ hc⟩
  · simp at h

def tvField (P : Program) (t : TypeId) (x : TV) (f : Nat) : Option TV := match P.underlying t, x with
  | some (.struct fs), .agg l => match fs[f]? with
    | some fd => tvPart P fd.type l fd.offset
    | none => none
  | _, _ => none

theorem tvField_ok {t : TypeId} {f : Nat} {vx v : TV} {x : Value} (h : tvField P t vx f = some v) (hx : TRep w M φ S vx x) : ∃ z, (Instr.field t x f).run P w = .ok z w ∧ TRep w M φ S v z := by
  unfold tvField at h
  split at h
  · rename_i fs l hu
    split at h
    · rename_i fd hf
      cases hx with
      | agg l cs hl hr =>
        obtain ⟨z, hz, hv⟩ := tvPart_ok (P := P) (w := w) h hl hr
        refine ⟨z, ?_, hv⟩
        simp only [Instr.field, Sem.run_bind, run_underlying hu, Result.andThen_ok, hf, asAgg, Sem.run_pure]
        exact hz
    · simp at h
  · simp at h

def tvIndex (P : Program) (t : TypeId) (x i : TV) : Option TV := match P.underlying t, x, i with
  | some .string, .c (.str s), .c (.int _ n) => if h : 0 ≤ n ∧ n < s.size then some (.c (.int .u8 ((s[n.toNat]'(by omega)).toNat : Int))) else none
  | some (.array len e), .agg l, .c (.int _ n) => match szOf P e with
    | some sz => if 0 ≤ n ∧ n < len then tvPart P e l (n.toNat * sz) else none
    | none => none
  | _, _, _ => none

theorem tvIndex_ok {t : TypeId} {vx vi v : TV} {x i : Value} (h : tvIndex P t vx vi = some v) (hx : TRep w M φ S vx x) (hi : TRep w M φ S vi i) :
    ∃ z, (Instr.index t x i).run P w = .ok z w ∧ TRep w M φ S v z := by
  unfold tvIndex at h
  split at h
  · rename_i s _ n hu
    obtain rfl := rep_str hx
    obtain rfl := rep_int hi
    split at h
    · rename_i hn
      simp at h
      subst h
      refine ⟨_, ?_, mk_int⟩
      have : s[n.toNat]? = some (s[n.toNat]'(by omega)) := by simp
      simp [Instr.index, asIntOf, run_underlying hu, hn.1, this]
    · simp at h
  · rename_i len e l _ n hu
    obtain rfl := rep_int hi
    split at h
    · rename_i sz hsz
      split at h
      · rename_i hn
        cases hx with
        | agg l cs hl hr =>
          obtain ⟨z, hz, hv⟩ := tvPart_ok (P := P) (w := w) h hl hr
          refine ⟨z, ?_, hv⟩
          simp only [Instr.index, asIntOf, Sem.run_bind, run_underlying hu, Result.andThen_ok, Sem.run_pure, if_pos hn, run_szOf hsz]
          exact hz
      · simp at h
    · simp at h
  · simp at h
end
end Go.Sim
