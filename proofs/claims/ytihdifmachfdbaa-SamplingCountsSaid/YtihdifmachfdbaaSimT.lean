/- A part of the proof: values and stores in plain Lean, and the rules by which a walk is taken. -/
import Derived.Test.YtihdifmachfdbaaSimQ
set_option autoImplicit false
set_option linter.unusedSimpArgs false
set_option linter.unusedVariables false
namespace Go.Sim
open Go

/-! ### typed values: symbols for values and objects, by which a walk is evaluated -/
inductive Ty where
  | i (k : IntKind) | b | s | l (t : Ty) | p (x y : Ty)
  deriving DecidableEq

@[reducible] def Ty.den : Ty → Type
  | .i _ => Int
  | .b => Bool
  | .s => ByteArray
  | .l t => List t.den
  | .p x y => x.den × y.den

@[reducible] def Ty.size : Ty → Nat
  | .p x y => x.size + y.size
  | _ => 1

def dflt : (t : Ty) → t.den
  | .i _ => (0 : Int)
  | .b => false
  | .s => ByteArray.empty
  | .l _ => []
  | .p x y => (dflt x, dflt y)

def enc : (t : Ty) → t.den → List CV
  | .i k, n => [.int k n]
  | .b, x => [.bool x]
  | .s, x => [.str x]
  | .l t, xs => [.sl xs.length (xs.flatMap (enc t))]
  | .p x y, v => enc x v.1 ++ enc y v.2

theorem enc_len : ∀ (t : Ty) (x : t.den), (enc t x).length = t.size
  | .i _, _ => rfl
  | .b, _ => rfl
  | .s, _ => rfl
  | .l _, _ => rfl
  | .p x y, v => by simp [enc, enc_len x, enc_len y]

theorem Ty.size_pos : ∀ t : Ty, 0 < t.size
  | .i _ => by simp
  | .b => by simp
  | .s => by simp
  | .l _ => by simp
  | .p x y => by have := Ty.size_pos x; simp only [Ty.size]; omega

def encs (t : Ty) (l : List t.den) : List CV := l.flatMap (enc t)

theorem encs_len (t : Ty) (l : List t.den) : (encs t l).length = l.length * t.size := by
  unfold encs
  induction l with
  | nil => simp
  | cons x l ih => simp [List.flatMap_cons, enc_len, ih, Nat.add_mul]; omega

theorem encs_append (t : Ty) (l l' : List t.den) : encs t (l ++ l') = encs t l ++ encs t l' := by simp [encs]

theorem encs_drop (t : Ty) : ∀ (l : List t.den) (i : Nat), (encs t l).drop (i * t.size) = encs t (l.drop i)
  | l, 0 => by simp
  | [], i + 1 => by simp [encs]
  | x :: l, i + 1 => by
    have e : encs t (x :: l) = enc t x ++ encs t l := by simp [encs]
    rw [e, List.drop_append, enc_len, Nat.add_mul, Nat.one_mul]
    have h1 : List.drop (i * t.size + t.size) (enc t x) = [] := List.drop_eq_nil_of_le (by rw [enc_len]; omega)
    rw [h1, Nat.add_sub_cancel, encs_drop t l i]
    simp

theorem encs_take (t : Ty) : ∀ (l : List t.den) (i : Nat), (encs t l).take (i * t.size) = encs t (l.take i)
  | l, 0 => by simp [encs]
  | [], i + 1 => by simp [encs]
  | x :: l, i + 1 => by
    have e : encs t (x :: l) = enc t x ++ encs t l := by simp [encs]
    rw [e, List.take_append, enc_len, Nat.add_mul, Nat.one_mul]
    have h1 : List.take (i * t.size + t.size) (enc t x) = enc t x := List.take_of_length_le (by rw [enc_len]; omega)
    rw [h1, Nat.add_sub_cancel, encs_take t l i]
    simp [encs]

theorem encs_at (t : Ty) (l : List t.den) {i : Nat} (h : i < l.length) : ((encs t l).drop (i * t.size)).take t.size = enc t (l.getD i (dflt t)) := by
  rw [encs_drop]
  have e : l.drop i = l[i] :: l.drop (i + 1) := by simp
  rw [e]
  have e2 : encs t (l[i] :: l.drop (i + 1)) = enc t l[i] ++ encs t (l.drop (i + 1)) := by simp only [encs, List.flatMap_cons]
  rw [e2, List.take_append, enc_len, Nat.sub_self, List.take_zero, List.append_nil, List.take_of_length_le (by rw [enc_len]; exact Nat.le_refl _)]
  simp [List.getD_eq_getElem?_getD, h]

theorem encs_get (t : Ty) (l : List t.den) {i c : Nat} (h : i < l.length) (hc : c < t.size) : (encs t l)[i * t.size + c]? = (enc t (l.getD i (dflt t)))[c]? := by
  rw [← encs_at t l h, List.getElem?_take, if_pos hc, List.getElem?_drop]

theorem encs_set (t : Ty) (l : List t.den) {i : Nat} (h : i < l.length) (v : t.den) : splice (encs t l) (i * t.size) (enc t v) = encs t (l.set i v) := by
  unfold splice
  rw [enc_len, show i * t.size + t.size = (i + 1) * t.size by rw [Nat.add_mul, Nat.one_mul], encs_take, encs_drop]
  have e : enc t v = encs t [v] := by simp [encs]
  rw [e, ← encs_append, ← encs_append, List.set_eq_take_append_cons_drop, if_pos h]
  simp

/-! symbols -/
inductive SV where
  | int (k : IntKind) (n : Int)
  | bool (b : Bool)
  | tt | ff
  | str (s : ByteArray)
  | row (t : Ty) (l : List t.den)
  | nrow (b : Bool) (t : Ty) (l : List t.den)
  | cv (v : CV)
  | rptr (t : Ty) (l : List t.den) (i c : Nat)
  | ptr (id g off : Nat)
  | eptr (id g off i esz c : Nat)
  | view (id g off len : Nat)
  | gview (id len : Nat)
  | agg (l : List SV)
  | tup (l : List SV)
  | fn (f : Fn) (l1 l2 : List SV)
  | ifc (t : TypeId) (v : SV)
  | mapr (id : Nat)
  | arr (k : IntKind) (n : Nat) (f : Nat → Int)
  | barr (n : Nat) (f : Nat → Bool)
  | lst (t : Ty) (l : List t.den)
  | opt (b : Bool) (v : SV)
  | taddr (l : List CV)
  | junk
  deriving Inhabited

mutual
/-- The cells of a symbol; most have one. -/
def SV.cells : SV → List TV
  | .int k n => [.c (.int k n)]
  | .bool b => [.c (.bool b)]
  | .tt => [.c (.bool true)]
  | .ff => [.c (.bool false)]
  | .str s => [.c (.str s)]
  | .row t l => [.c (.sl l.length (encs t l))]
  | .nrow b t l => [.c (bif b then .nilsl else .sl l.length (encs t l))]
  | .cv v => [.c v]
  | .rptr t l i c => [.taddr ((encs t l).drop (i * t.size + c))]
  | .ptr id g off => [.ptr id g off]
  | .eptr id g off i esz c => [.ptr id g (off + i * esz + c)]
  | .view id g off len => [.view id g off len]
  | .gview id len => [bif len == 0 then .c .nilsl else .view id len 0 len]
  | .agg l => [.agg (SV.cellsL l)]
  | .tup l => [.tup (SV.outL l)]
  | .fn f l1 l2 => [.fn f (SV.outL l1) (SV.outL l2)]
  | .ifc t v => [match (SV.cells v).headD .junk with
      | .c c => .c (.ifc t c)
      | x => .ifc t x]
  | .mapr id => [.mapr id]
  | .arr k n f => (List.range n).map fun i => .c (.int k (f i))
  | .barr n f => (List.range n).map fun i => .c (.bool (f i))
  | .lst t l => (encs t l).map .c
  | .opt b v => [bif b then (SV.cells v).headD .junk else .tup []]
  | .taddr l => [.taddr l]
  | .junk => [.junk]
def SV.cellsL : List SV → List TV
  | [] => []
  | v :: l => SV.cells v ++ SV.cellsL l
def SV.outL : List SV → List TV
  | [] => []
  | v :: l => (SV.cells v).headD .junk :: SV.outL l
end

def SV.out (v : SV) : TV := v.cells.headD .junk

theorem outL_map (l : List SV) : SV.outL l = l.map SV.out := by
  induction l with
  | nil => rfl
  | cons v l ih => simp [SV.outL, SV.out, ih]
theorem cellsL_append (a b : List SV) : SV.cellsL (a ++ b) = SV.cellsL a ++ SV.cellsL b := by
  induction a with
  | nil => rfl
  | cons v l ih => simp [SV.cellsL, ih]

/-- Symbols of one cell. -/
def SV.single : SV → Bool
  | .arr .. | .barr .. | .lst .. => false
  | _ => true
theorem single_cells {v : SV} (h : v.single = true) : v.cells = [v.out] := by
  cases v <;> first | rfl | (simp [SV.single] at h)

inductive SObj where
  | obj (g : Nat) (et : TypeId) (esz : Nat) (cs : List SV)
  | grow (et : TypeId) (t : Ty) (l : List t.den)
  | map (es : List (SV × SV × Nat)) (clock : Nat)
  | gone

def SObj.out : SObj → Option AObj
  | .obj g et esz cs => some (.cells g et esz (SV.cellsL cs))
  | .grow et t l => bif l.length == 0 then none else some (.cells l.length et t.size ((encs t l).map .c))
  | .map es clock => some (.map (es.map fun e => (e.1.out, e.2.1.out, e.2.2)) clock)
  | .gone => none

def outS (L : List SObj) : Store := ⟨L.length, fun i => (L[i]?).bind SObj.out⟩
def outT (V : Nat → SV) : Nat → TV := fun t => (V t).out

def updS (V : Nat → SV) (d : Nat) (v : SV) : Nat → SV := fun t => match Nat.beq t d with
  | true => v
  | false => V t
def putS (V : Nat → SV) (dst : Option Tmp) (v : SV) : Nat → SV := match dst with
  | some d => updS V d v
  | none => V

theorem outT_put (V : Nat → SV) (dst : Option Tmp) (v : SV) : put (outT V) dst v.out = outT (putS V dst v) := by
  cases dst with
  | none => rfl
  | some d =>
    funext t
    simp only [put, upd, outT, putS, updS]
    by_cases h : t = d
    · subst h
      simp
    · have : Nat.beq t d = false := by cases hb : Nat.beq t d with
        | true => exact absurd (Nat.eq_of_beq_eq_true hb) h
        | false => rfl
      simp [h, this]

/-- Slots by a list. -/
def look : List (Nat × SV) → Nat → SV
  | [], _ => .junk
  | (k, v) :: l, t => match Nat.beq t k with
    | true => v
    | false => look l t

def constS (v : Value) : SV := match ofValue v with
  | some (.int k n) => .int k n
  | some (.bool true) => .tt
  | some (.bool false) => .ff
  | some (.str s) => .str s
  | some c => .cv c
  | none => .junk
def evS (V : Nat → SV) : Operand → SV
  | .tmp t => V t
  | .const v => constS v
  | .global _ => .junk
  | .func f => .fn (.func f) [] []

theorem constS_out (v : Value) : (constS v).out = ofConst v := by
  unfold constS ofConst
  cases h : ofValue v with
  | none => rfl
  | some c =>
    cases c with
    | bool b => cases b <;> rfl
    | _ => rfl
theorem evS_out (V : Nat → SV) (x : Operand) : ev (outT V) x = (evS V x).out := by
  cases x with
  | tmp t => rfl
  | const v => simp [ev, evS, constS_out]
  | global g => rfl
  | func f => rfl
end Go.Sim
