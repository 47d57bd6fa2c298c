/- A part of the proof: values and stores in plain Lean, and the rules by which a walk is taken. -/
import Derived.Test.YtihdifmachfdbaaSimB
set_option autoImplicit false
set_option linter.unusedSimpArgs false
set_option linter.unusedVariables false
namespace Go.Sim
open Go

/-! ### operands -/

def ofValue : Value → Option CV
  | .int k n => some (.int k n)
  | .bool b => some (.bool b)
  | .string s => some (.str s)
  | .pointer none => some .nilptr
  | .slice none 0 0 => some .nilsl
  | .map none => some .nilmap
  | .nilFunc => some .nilfn
  | .nilIface => some .nilif
  | _ => none

theorem ofValue_ok {w : World} {M : Nat → Prop} {v : Value} {c : CV} (h : ofValue v = some c) : CRep w M c v := by
  unfold ofValue at h
  split at h <;> simp at h <;> subst h <;> constructor

def ofConst (v : Value) : TV := match ofValue v with
  | some c => .c c
  | none => .junk

def ev (T : Nat → TV) : Operand → TV
  | .tmp t => T t
  | .const v => ofConst v
  | .global _ => .junk
  | .func f => .fn (.func f) [] []

section
variable {P : Program} {N : Nat} {F : Nat → Prop} {φ : Env} {T : Nat → TV} {S : Store} {a : Act} {w : World} {M : Nat → Prop}

theorem ev_rep (hs : SRep N F φ T S a w) (x : Operand) : TRep w (Mut F φ S) φ S (ev T x) (a.eval x) := by
  cases x with
  | tmp t => exact hs.tmps t
  | const v =>
    simp only [ev, ofConst, Act.eval]
    cases h : ofValue v with
    | none => exact .junk _
    | some c => exact .c _ _ (ofValue_ok h)
  | global g => exact .junk _
  | func f => exact .fn _ _ _ _ _ rfl rfl (fun i h => absurd h (by simp)) (fun i h => absurd h (by simp))

/-! ### inversions -/
theorem rep_int {k : IntKind} {n : Int} {x : Value} (h : TRep w M φ S (.c (.int k n)) x) : x = .int k n := by cases h with | c v x h => cases h; rfl
theorem rep_bool {b : Bool} {x : Value} (h : TRep w M φ S (.c (.bool b)) x) : x = .bool b := by cases h with | c v x h => cases h; rfl
theorem rep_str {s : ByteArray} {x : Value} (h : TRep w M φ S (.c (.str s)) x) : x = .string s := by cases h with | c v x h => cases h; rfl
theorem rep_nilsl {x : Value} (h : TRep w M φ S (.c .nilsl) x) : x = .slice none 0 0 := by cases h with | c v x h => cases h; rfl
theorem rep_nilptr {x : Value} (h : TRep w M φ S (.c .nilptr) x) : x = .pointer none := by cases h with | c v x h => cases h; rfl
theorem mk_int {k : IntKind} {n : Int} : TRep w M φ S (.c (.int k n)) (.int k n) := .c _ _ (.int k n)
theorem mk_bool {b : Bool} : TRep w M φ S (.c (.bool b)) (.bool b) := .c _ _ (.bool b)
theorem mk_str {s : ByteArray} : TRep w M φ S (.c (.str s)) (.string s) := .c _ _ (.str s)

/-! ### arithmetic -/
def bitsI (op : BinOp) (k : IntKind) (x y : Int) : Int :=
  let a := BitVec.ofInt k.bits x
  let b := BitVec.ofInt k.bits y
  k.wrap (match op with
    | .and => ((a &&& b).toNat : Int)
    | .or => ((a ||| b).toNat : Int)
    | .xor => ((a ^^^ b).toNat : Int)
    | _ => ((a &&& ~~~b).toNat : Int))

def intBin (op : BinOp) (k : IntKind) (a b : Int) : Option TV :=
  match op with
  | .add => some (.c (.int k (k.wrap (a + b))))
  | .sub => some (.c (.int k (k.wrap (a - b))))
  | .mul => some (.c (.int k (k.wrap (a * b))))
  | .quo => if b = 0 then none else some (.c (.int k (k.wrap (a.tdiv b))))
  | .rem => if b = 0 then none else some (.c (.int k (a.tmod b)))
  | .and => some (.c (.int k (bitsI .and k a b)))
  | .or => some (.c (.int k (bitsI .or k a b)))
  | .xor => some (.c (.int k (bitsI .xor k a b)))
  | .andNot => some (.c (.int k (bitsI .andNot k a b)))
  | .eql => some (.c (.bool (a == b)))
  | .neq => some (.c (.bool (a != b)))
  | .lss => some (.c (.bool (decide (a < b))))
  | .leq => some (.c (.bool (decide (a ≤ b))))
  | .gtr => some (.c (.bool (decide (a > b))))
  | .geq => some (.c (.bool (decide (a ≥ b))))
  | _ => none

def tvBin (op : BinOp) (x y : TV) : Option TV :=
  match x, y with
  | .c (.int k a), .c (.int k' b) =>
    match op with
    | .shl => if b < 0 then none else some (.c (.int k (k.wrap (a * 2 ^ min b.toNat k.bits))))
    | .shr => if b < 0 then none else some (.c (.int k (a.fdiv (2 ^ min b.toNat k.bits))))
    | op => if k = k' then intBin op k a b else none
  | .c (.bool a), .c (.bool b) =>
    match op with
    | .eql => some (.c (.bool (a == b)))
    | .neq => some (.c (.bool (!(a == b))))
    | _ => none
  | .c (.str a), .c (.str b) =>
    match op with
    | .add => if ((a.size + b.size : Nat) : Int) > IntKind.i64.max then none else some (.c (.str (a ++ b)))
    | .eql => some (.c (.bool (a.toList == b.toList)))
    | .neq => some (.c (.bool (!(a.toList == b.toList))))
    | .lss => some (.c (.bool (Op.bytesLess a.toList b.toList)))
    | .leq => some (.c (.bool (Op.bytesLess a.toList b.toList || a.toList == b.toList)))
    | .gtr => some (.c (.bool (!(Op.bytesLess a.toList b.toList || a.toList == b.toList))))
    | .geq => some (.c (.bool (!(Op.bytesLess a.toList b.toList))))
    | _ => none
  | _, _ => none

theorem eqGuard_int (op : BinOp) (t : TypeId) (x y : Operand) (k k' : IntKind) (m n : Int) : (eqGuard op t x y (.int k m) (.int k' n)).run P w = .ok () w := by
  unfold eqGuard
  cases op <;> simp
theorem eqGuard_bool (op : BinOp) (t : TypeId) (x y : Operand) (m n : Bool) : (eqGuard op t x y (.bool m) (.bool n)).run P w = .ok () w := by
  unfold eqGuard
  cases op <;> simp
theorem eqGuard_str (op : BinOp) (t : TypeId) (x y : Operand) (m n : ByteArray) : (eqGuard op t x y (.string m) (.string n)).run P w = .ok () w := by
  unfold eqGuard
  cases op <;> simp

theorem run_equal_bool {t : TypeId} (hu : P.underlying t = some .bool) (a b : Bool) : (Op.equal t (.bool a) (.bool b)).run P w = .ok (a == b) w := by
  show (Op.equalIn (9999 + 1) t (.bool a) (.bool b)).run P w = _
  rw [Op.equalIn]
  simp only [Sem.run_bind, run_underlying hu, Result.andThen_ok, Sem.run_pure]

theorem tvBin_ok {op : BinOp} {t : TypeId} {xo yo : Operand} {vx vy v : TV} {x y : Value} (h : tvBin op vx vy = some v) (hx : TRep w M φ S vx x) (hy : TRep w M φ S vy y)
    (hb : ∀ a b, vx = .c (.bool a) → vy = .c (.bool b) → P.underlying t = some .bool) :
    ∃ z, (do eqGuard op t xo yo x y; binOp op t x y : Sem Value).run P w = .ok z w ∧ TRep w M φ S v z := by
  unfold tvBin at h
  split at h
  · rename_i k a k' b
    obtain rfl := rep_int hx
    obtain rfl := rep_int hy
    simp only [Sem.run_bind, eqGuard_int, Result.andThen_ok]
    split at h
    · split at h
      · simp at h
      · rename_i hb
        simp at h
        subst h
        refine ⟨_, ?_, mk_int⟩; simp [binOp, Op.shift, hb]
    · split at h
      · simp at h
      · rename_i hb
        simp at h
        subst h
        refine ⟨_, ?_, mk_int⟩; simp [binOp, Op.shift, hb]
    · split at h
      · rename_i h1 h2 hk
        subst hk
        unfold intBin at h
        split at h <;> first
          | (simp at h; done)
          | (simp at h; subst h; refine ⟨_, ?_, mk_int⟩; simp [binOp, Op.intArith, Op.intBits, bitsI]; done)
          | (simp at h; subst h; refine ⟨_, ?_, mk_bool⟩; simp [binOp, Op.intCmp]; done)
          | (split at h <;> first
              | (simp at h; done)
              | (rename_i hz; simp at h; subst h; refine ⟨_, ?_, mk_int⟩; simp [binOp, Op.intDiv, hz]; done))
      · simp at h
  · rename_i a b
    obtain rfl := rep_bool hx
    obtain rfl := rep_bool hy
    have hu := hb a b rfl rfl
    simp only [Sem.run_bind, eqGuard_bool, Result.andThen_ok]
    split at h <;> simp at h <;> subst h
    · refine ⟨_, ?_, mk_bool⟩; simp only [binOp, Sem.run_bind, run_equal_bool hu, Result.andThen_ok, Sem.run_pure]
    · refine ⟨_, ?_, mk_bool⟩; simp only [binOp, Sem.run_bind, run_equal_bool hu, Result.andThen_ok, Sem.run_pure]
  · rename_i a b
    obtain rfl := rep_str hx
    obtain rfl := rep_str hy
    simp only [Sem.run_bind, eqGuard_str, Result.andThen_ok]
    split at h <;> first
      | (simp at h; done)
      | (simp at h; subst h; refine ⟨_, ?_, mk_bool⟩; simp [binOp, Op.stringOp]; done)
      | (split at h <;> first
          | (simp at h; done)
          | (rename_i hz; simp at h; subst h; refine ⟨_, ?_, mk_str⟩; simp [binOp, Op.stringOp]; simp at hz; omega))
  · simp at h
end
end Go.Sim
