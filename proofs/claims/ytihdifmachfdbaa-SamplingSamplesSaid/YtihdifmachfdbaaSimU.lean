/- A part of the proof: values and stores in plain Lean, and the rules by which a walk is taken. -/
import Derived.Test.YtihdifmachfdbaaSimT
set_option autoImplicit false
set_option linter.unusedSimpArgs false
set_option linter.unusedVariables false
namespace Go.Sim
open Go

/-! ### the types a walk meets, as a table -/
inductive TK where
  | int (k : IntKind) | bool | str | ptr (e : TypeId) | slice (e : TypeId) | arr (n : Nat) (e : TypeId) | struct (fs : List (TypeId × Nat)) | map | fn | ifc

def tkOK : TK → TypeDesc → Bool
  | .int k, .int k' => decide (k = k')
  | .bool, .bool => true
  | .str, .string => true
  | .ptr e, .pointer e' => decide (e = e')
  | .slice e, .slice e' => decide (e = e')
  | .arr n e, .array n' e' => decide (n = n') && decide (e = e')
  | .struct fs, .struct fs' => decide (fs = fs'.toList.map fun f => (f.type, f.offset))
  | .map, .map _ _ => true
  | .fn, .func _ _ _ => true
  | .ifc, .interface _ => true
  | _, _ => false

structure TI where
  kind : TK
  sz : Nat
  zero : List SV
  bytes : Nat

abbrev Tab := List (Nat × TI)
def getT : Tab → Nat → Option TI
  | [], _ => none
  | (k, ti) :: l, t => match Nat.beq t k with
    | true => some ti
    | false => getT l t

def checkT (P : Program) (t : TypeId) (ti : TI) : Prop :=
  (match P.underlying t with | some d => tkOK ti.kind d | none => false) = true ∧ szOf P t = some ti.sz ∧ (zeroCs P t).map (·.map TV.c) = some (SV.cellsL ti.zero) ∧ bytesOf P t = some ti.bytes

def TabOK (P : Program) (tab : Tab) : Prop := ∀ t ti, getT tab t = some ti → checkT P t ti

theorem tabOK_nil {P : Program} : TabOK P [] := fun t ti h => by simp [getT] at h
theorem tabOK_cons {P : Program} {t : TypeId} {ti : TI} {l : Tab} (h : checkT P t ti) (hl : TabOK P l) : TabOK P ((t, ti) :: l) := by
  intro t' ti' h'
  simp only [getT] at h'
  split at h'
  · rename_i hb
    simp at h'
    subst h'
    rw [Nat.eq_of_beq_eq_true hb]
    exact h
  · exact hl _ _ h'

def isAggK : TK → Bool
  | .struct _ | .arr _ _ => true
  | _ => false

section
variable {P : Program} {tab : Tab}
theorem tab_int (hT : TabOK P tab) {t : TypeId} {ti : TI} (h : getT tab t = some ti) {k : IntKind} (hk : ti.kind = .int k) : P.underlying t = some (.int k) := by
  obtain ⟨h1, _⟩ := hT t ti h
  rw [hk] at h1
  split at h1
  · rename_i d e; cases d <;> simp [tkOK] at h1; subst h1; exact e
  · simp at h1
theorem tab_bool (hT : TabOK P tab) {t : TypeId} {ti : TI} (h : getT tab t = some ti) (hk : ti.kind = .bool) : P.underlying t = some .bool := by
  obtain ⟨h1, _⟩ := hT t ti h
  rw [hk] at h1
  split at h1
  · rename_i d e; cases d <;> simp [tkOK] at h1; exact e
  · simp at h1
theorem tab_str (hT : TabOK P tab) {t : TypeId} {ti : TI} (h : getT tab t = some ti) (hk : ti.kind = .str) : P.underlying t = some .string := by
  obtain ⟨h1, _⟩ := hT t ti h
  rw [hk] at h1
  split at h1
  · rename_i d e; cases d <;> simp [tkOK] at h1; exact e
  · simp at h1
theorem tab_slice (hT : TabOK P tab) {t : TypeId} {ti : TI} (h : getT tab t = some ti) {e : TypeId} (hk : ti.kind = .slice e) : P.underlying t = some (.slice e) := by
  obtain ⟨h1, _⟩ := hT t ti h
  rw [hk] at h1
  split at h1
  · rename_i d e; cases d <;> simp [tkOK] at h1; subst h1; exact e
  · simp at h1
theorem tab_ptr (hT : TabOK P tab) {t : TypeId} {ti : TI} (h : getT tab t = some ti) {e : TypeId} (hk : ti.kind = .ptr e) : P.underlying t = some (.pointer e) := by
  obtain ⟨h1, _⟩ := hT t ti h
  rw [hk] at h1
  split at h1
  · rename_i d e; cases d <;> simp [tkOK] at h1; subst h1; exact e
  · simp at h1
theorem tab_arr (hT : TabOK P tab) {t : TypeId} {ti : TI} (h : getT tab t = some ti) {n : Nat} {e : TypeId} (hk : ti.kind = .arr n e) : P.underlying t = some (.array n e) := by
  obtain ⟨h1, _⟩ := hT t ti h
  rw [hk] at h1
  split at h1
  · rename_i d e; cases d <;> simp [tkOK] at h1; obtain ⟨rfl, rfl⟩ := h1; exact e
  · simp at h1
theorem tab_struct (hT : TabOK P tab) {t : TypeId} {ti : TI} (h : getT tab t = some ti) {fs : List (TypeId × Nat)} (hk : ti.kind = .struct fs) : ∃ fs', P.underlying t = some (.struct fs') ∧ fs = fs'.toList.map fun f => (f.type, f.offset) := by
  obtain ⟨h1, _⟩ := hT t ti h
  rw [hk] at h1
  split at h1
  · rename_i d e; cases d <;> simp [tkOK] at h1; exact ⟨_, e, h1⟩
  · simp at h1
theorem tab_agg (hT : TabOK P tab) {t : TypeId} {ti : TI} (h : getT tab t = some ti) : (∃ d, P.underlying t = some d) ∧ aggT P t = isAggK ti.kind := by
  obtain ⟨h1, _⟩ := hT t ti h
  split at h1
  · rename_i d e
    refine ⟨⟨d, e⟩, ?_⟩
    unfold aggT
    rw [e]
    cases hk : ti.kind <;> rw [hk] at h1 <;> cases d <;> simp [tkOK] at h1 <;> rfl
  · simp at h1
theorem tab_sz (hT : TabOK P tab) {t : TypeId} {ti : TI} (h : getT tab t = some ti) : szOf P t = some ti.sz := (hT t ti h).2.1
theorem tab_zero (hT : TabOK P tab) {t : TypeId} {ti : TI} (h : getT tab t = some ti) : ∃ z, zeroCs P t = some z ∧ SV.cellsL ti.zero = z.map .c := by
  obtain ⟨_, _, h1, _⟩ := hT t ti h
  simp only [Option.map_eq_some_iff] at h1
  obtain ⟨z, h2, h3⟩ := h1
  exact ⟨z, h2, h3.symm⟩
theorem tab_bytes (hT : TabOK P tab) {t : TypeId} {ti : TI} (h : getT tab t = some ti) : bytesOf P t = some ti.bytes := (hT t ti h).2.2.2
end

/-! ### whole numbers, truth values -/
def inr : IntKind → Int → Prop
  | .i8, n => -128 ≤ n ∧ n ≤ 127
  | .i16, n => -32768 ≤ n ∧ n ≤ 32767
  | .i32, n => -2147483648 ≤ n ∧ n ≤ 2147483647
  | .i64, n => -9223372036854775808 ≤ n ∧ n ≤ 9223372036854775807
  | .u8, n => 0 ≤ n ∧ n ≤ 255
  | .u16, n => 0 ≤ n ∧ n ≤ 65535
  | .u32, n => 0 ≤ n ∧ n ≤ 4294967295
  | .u64, n => 0 ≤ n ∧ n ≤ 18446744073709551615

theorem inr_wrap {k : IntKind} {n : Int} (h : inr k n) : k.wrap n = n := by
  cases k <;> simp only [inr] at h <;> simp [IntKind.wrap, IntKind.bits, IntKind.signed] <;> omega

theorem ov {α β : Type _} {a c : α} {b d : β} (h : some (a, b) = some (c, d)) : a = c ∧ b = d := by
  injection h with h
  injection h with h1 h2
  exact ⟨h1, h2⟩
def svArith (m : Bool) (k : IntKind) (n : Int) : Option (Prop × SV) := match m with
  | true => some (True, .int k (k.wrap n))
  | false => some (inr k n, .int k n)

def svInt (m : Bool) (op : BinOp) (k k' : IntKind) (a b : Int) : Option (Prop × SV) := match op with
  | .shl => match m with
    | true => some (0 ≤ b, .int k (k.wrap (a * 2 ^ min b.toNat k.bits)))
    | false => some (0 ≤ b ∧ b ≤ (k.bits : Int) ∧ inr k (a * 2 ^ b.toNat), .int k (a * 2 ^ b.toNat))
  | .shr => some (0 ≤ b ∧ b ≤ (k.bits : Int), .int k (a / 2 ^ b.toNat))
  | _ => match decide (k = k') with
    | false => none
    | true => match op with
      | .add => svArith m k (a + b)
      | .sub => svArith m k (a - b)
      | .mul => svArith m k (a * b)
      | .quo => match m with
        | true => some (b ≠ 0, .int k (k.wrap (a.tdiv b)))
        | false => some (0 ≤ a ∧ 0 < b ∧ inr k (a / b), .int k (a / b))
      | .rem => match m with
        | true => some (b ≠ 0, .int k (a.tmod b))
        | false => some (0 ≤ a ∧ 0 < b, .int k (a % b))
      | .and => some (True, .int k (bitsI .and k a b))
      | .or => some (True, .int k (bitsI .or k a b))
      | .xor => some (True, .int k (bitsI .xor k a b))
      | .andNot => some (True, .int k (bitsI .andNot k a b))
      | .eql => some (True, .bool (decide (a = b)))
      | .neq => some (True, .bool (!decide (a = b)))
      | .lss => some (True, .bool (decide (a < b)))
      | .leq => some (True, .bool (decide (a ≤ b)))
      | .gtr => some (True, .bool (decide (a > b)))
      | .geq => some (True, .bool (decide (a ≥ b)))
      | _ => none

theorem svInt_ok {m : Bool} {op : BinOp} {k k' : IntKind} {a b : Int} {ob : Prop} {v : SV} (h : svInt m op k k' a b = some (ob, v)) (hob : ob) :
    tvBin op (.c (.int k a)) (.c (.int k' b)) = some v.out := by
  have ar : ∀ n, svArith m k n = some (ob, v) → (some (TV.c (.int k (k.wrap n)))) = some v.out := fun n hn => by
    unfold svArith at hn
    cases m <;> obtain ⟨rfl, rfl⟩ := ov hn
    · simp [SV.out, SV.cells, inr_wrap hob]
    · rfl
  have e2 : ∀ n : Nat, (0 : Int) < 2 ^ n := fun n => Int.pow_pos (by decide)
  cases op <;> simp only [svInt] at h <;> simp only [tvBin]
  case shl =>
    cases m <;> obtain ⟨rfl, rfl⟩ := ov h
    · have hm : min b.toNat k.bits = b.toNat := by omega
      rw [if_neg (by omega), hm, inr_wrap hob.2.2]
      rfl
    · rw [if_neg (by omega)]
      rfl
  case shr =>
    obtain ⟨rfl, rfl⟩ := ov h
    have hm : min b.toNat k.bits = b.toNat := by omega
    rw [if_neg (by omega), hm, Int.fdiv_eq_ediv_of_nonneg _ (Int.le_of_lt (e2 _))]
    rfl
  all_goals
    split at h
    · simp at h
    · rename_i hk
      have hk' : k = k' := of_decide_eq_true hk
      rw [if_pos hk']
      clear hk
      first
        | (simp at h; done)
        | exact ar _ h
        | (obtain ⟨rfl, rfl⟩ := ov h; rfl)
        | (cases m <;> obtain ⟨rfl, rfl⟩ := ov h
           · obtain ⟨h1, h2, h3⟩ := hob
             simp only [intBin]
             rw [if_neg (by omega), Int.tdiv_eq_ediv_of_nonneg h1, inr_wrap h3]
             rfl
           · simp only [intBin]
             rw [if_neg hob]
             rfl)
        | (cases m <;> obtain ⟨rfl, rfl⟩ := ov h
           · obtain ⟨h1, h2⟩ := hob
             simp only [intBin]
             rw [if_neg (by omega), Int.tmod_eq_emod_of_nonneg h1]
             rfl
           · simp only [intBin]
             rw [if_neg hob]
             rfl)

def asB : SV → Option Bool
  | .bool b => some b
  | .tt => some true
  | .ff => some false
  | _ => none
theorem asB_out {v : SV} {b : Bool} (h : asB v = some b) : v.out = .c (.bool b) := by
  cases v <;> simp [asB] at h <;> subst h <;> rfl

def svBB (op : BinOp) (a b : Bool) : Option (Prop × SV) := match op with
  | .eql => some (True, .bool (a == b))
  | .neq => some (True, .bool (!(a == b)))
  | _ => none

def svStr (op : BinOp) (a b : ByteArray) : Option (Prop × SV) := match op with
  | .add => some (((a.size + b.size : Nat) : Int) ≤ 9223372036854775807, .str (a ++ b))
  | .eql => some (True, .bool (a.toList == b.toList))
  | .neq => some (True, .bool (!(a.toList == b.toList)))
  | .lss => some (True, .bool (Op.bytesLess a.toList b.toList))
  | .leq => some (True, .bool (Op.bytesLess a.toList b.toList || a.toList == b.toList))
  | .gtr => some (True, .bool (!(Op.bytesLess a.toList b.toList || a.toList == b.toList)))
  | .geq => some (True, .bool (!(Op.bytesLess a.toList b.toList)))
  | _ => none

def svNil (op : BinOp) (b : Bool) : Option (Prop × SV) := match op with
  | .eql => some (True, .bool b)
  | .neq => some (True, .bool (!b))
  | _ => none

def kindOf (tab : Tab) (t : TypeId) : Option TK := match getT tab t with
  | some ti => some ti.kind
  | none => none

def svBin (tab : Tab) (m : Bool) (op : BinOp) (t : TypeId) (x y : SV) : Option (Prop × SV) := match x, y with
  | .int k a, .int k' b => svInt m op k k' a b
  | .str a, .str b => svStr op a b
  | .row _ l, .cv .nilsl => match kindOf tab t with
    | some (.slice _) => match svNil op false with
      | some (_, v) => some (0 < l.length, v)
      | none => none
    | _ => none
  | .nrow b _ l, .cv .nilsl => match kindOf tab t with
    | some (.slice _) => match svNil op b with
      | some (_, v) => some (b = false → 0 < l.length, v)
      | none => none
    | _ => none
  | .view _ _ _ _, .cv .nilsl => match kindOf tab t with
    | some (.slice _) => svNil op false
    | _ => none
  | .gview _ len, .cv .nilsl => match kindOf tab t with
    | some (.slice _) => svNil op (len == 0)
    | _ => none
  | .cv .nilsl, .cv .nilsl => match kindOf tab t with
    | some (.slice _) => svNil op true
    | _ => none
  | .ptr _ _ _, .cv .nilptr => match kindOf tab t with
    | some (.ptr _) => svNil op false
    | _ => none
  | .rptr _ _ _ _, .cv .nilptr => match kindOf tab t with
    | some (.ptr _) => svNil op false
    | _ => none
  | .cv .nilptr, .cv .nilptr => match kindOf tab t with
    | some (.ptr _) => svNil op true
    | _ => none
  | x, y => match asB x, asB y with
    | some a, some b => match kindOf tab t with
      | some .bool => svBB op a b
      | _ => none
    | _, _ => none

theorem kind_get {tab : Tab} {t : TypeId} {k : TK} (h : kindOf tab t = some k) : ∃ ti, getT tab t = some ti ∧ ti.kind = k := by
  unfold kindOf at h
  split at h
  · rename_i ti e; simp at h; exact ⟨ti, e, h⟩
  · simp at h

theorem svNil_ok {P : Program} {op : BinOp} {t e : TypeId} {b : Bool} {ob : Prop} {v : SV} (hu : P.underlying t = some (.slice e)) (h : svNil op b = some (ob, v)) : tvBinT.nil2 P op t b = some v.out := by
  unfold svNil at h
  unfold tvBinT.nil2
  split at h <;> first | (cases h; done) | (obtain ⟨rfl, rfl⟩ := ov h; simp [hu]; rfl)
theorem svPtr_ok {P : Program} {op : BinOp} {t e : TypeId} {b : Bool} {ob : Prop} {v : SV} (hu : P.underlying t = some (.pointer e)) (h : svNil op b = some (ob, v)) : tvBinT.ptr2 P op t b = some v.out := by
  unfold svNil at h
  unfold tvBinT.ptr2
  split at h <;> first | (cases h; done) | (obtain ⟨rfl, rfl⟩ := ov h; simp [hu]; rfl)

theorem svBin_ok {P : Program} {tab : Tab} (hT : TabOK P tab) {m : Bool} {op : BinOp} {t : TypeId} {x y v : SV} {ob : Prop} (h : svBin tab m op t x y = some (ob, v)) (hob : ob) : tvBinT P op t x.out y.out = some v.out := by
  unfold svBin at h
  split at h
  · exact svInt_ok h hob
  · rename_i a b
    show tvBin op (.c (.str a)) (.c (.str b)) = _
    unfold svStr at h
    split at h
    · obtain ⟨rfl, rfl⟩ := ov h
      simp only [tvBin]
      rw [if_neg (by simp [IntKind.max, IntKind.signed, IntKind.bits]; omega)]
      rfl
    all_goals first | (cases h; done) | (obtain ⟨rfl, rfl⟩ := ov h; rfl)
  · rename_i t' l
    split at h
    · rename_i e hk
      obtain ⟨ti, g1, g2⟩ := kind_get hk
      split at h
      · rename_i ob' v' hn
        obtain ⟨rfl, rfl⟩ := ov h
        obtain ⟨n, hl⟩ : ∃ n, l.length = n + 1 := ⟨l.length - 1, by omega⟩
        simp only [SV.out, SV.cells, List.headD_cons, hl]
        exact svNil_ok (tab_slice hT g1 g2) hn
      · simp at h
    · simp at h
  · rename_i b t' l
    split at h
    · rename_i e hk
      obtain ⟨ti, g1, g2⟩ := kind_get hk
      split at h
      · rename_i ob' v' hn
        obtain ⟨rfl, rfl⟩ := ov h
        cases b with
        | true => exact svNil_ok (tab_slice hT g1 g2) hn
        | false =>
          obtain ⟨n, hl⟩ : ∃ n, l.length = n + 1 := ⟨l.length - 1, by have := hob rfl; omega⟩
          simp only [SV.out, SV.cells, List.headD_cons, cond_false, hl]
          exact svNil_ok (tab_slice hT g1 g2) hn
      · simp at h
    · simp at h
  · split at h
    · rename_i e hk
      obtain ⟨ti, g1, g2⟩ := kind_get hk
      exact svNil_ok (tab_slice hT g1 g2) h
    · simp at h
  · rename_i id len
    split at h
    · rename_i e hk
      obtain ⟨ti, g1, g2⟩ := kind_get hk
      have := svNil_ok (P := P) (tab_slice hT g1 g2) h
      cases len with
      | zero => exact this
      | succ n => exact this
    · simp at h
  · split at h
    · rename_i e hk
      obtain ⟨ti, g1, g2⟩ := kind_get hk
      exact svNil_ok (tab_slice hT g1 g2) h
    · simp at h
  · split at h
    · rename_i e hk
      obtain ⟨ti, g1, g2⟩ := kind_get hk
      exact svPtr_ok (tab_ptr hT g1 g2) h
    · simp at h
  · split at h
    · rename_i e hk
      obtain ⟨ti, g1, g2⟩ := kind_get hk
      exact svPtr_ok (tab_ptr hT g1 g2) h
    · simp at h
  · split at h
    · rename_i e hk
      obtain ⟨ti, g1, g2⟩ := kind_get hk
      exact svPtr_ok (tab_ptr hT g1 g2) h
    · simp at h
  · split at h
    · rename_i a b ha hb
      split at h
      · rename_i hk
        obtain ⟨ti, g1, g2⟩ := kind_get hk
        rw [asB_out ha, asB_out hb]
        simp only [tvBinT, tab_bool hT g1 g2]
        unfold svBB at h
        split at h <;> first | (cases h; done) | (obtain ⟨rfl, rfl⟩ := ov h; rfl)
      · simp at h
    · simp at h

def svUn (m : Bool) (op : UnOp) (x : SV) : Option (Prop × SV) := match op, x with
  | .neg, .int k n => svArith m k (0 - n)
  | .xor, .int k n => some (True, .int k (bitsI .xor k (if k.signed then -1 else k.max) n))
  | .not, .bool b => some (True, .bool (!b))
  | .not, .tt => some (True, .ff)
  | .not, .ff => some (True, .tt)
  | _, _ => none

theorem svUn_ok {m : Bool} {op : UnOp} {x v : SV} {ob : Prop} (h : svUn m op x = some (ob, v)) (hob : ob) : tvUn op x.out = some v.out := by
  unfold svUn at h
  split at h
  · rename_i k n
    unfold svArith at h
    cases m <;> obtain ⟨rfl, rfl⟩ := ov h
    · simp only [SV.out, SV.cells, List.headD_cons, tvUn, inr_wrap hob]
    · rfl
  all_goals first
    | (simp at h; done)
    | (obtain ⟨rfl, rfl⟩ := ov h; rfl)

def svConv (tab : Tab) (m : Bool) (s d : TypeId) (x : SV) : Option (Prop × SV) := match kindOf tab s, kindOf tab d, x with
  | some _, some (.int k), .int _ n => svArith m k n
  | some _, some .str, .str b => some (True, .str b)
  | _, _, _ => none

theorem svConv_ok {P : Program} {tab : Tab} (hT : TabOK P tab) {m : Bool} {s d : TypeId} {x v : SV} {ob : Prop} (h : svConv tab m s d x = some (ob, v)) (hob : ob) : tvConv P s d x.out = some v.out := by
  unfold svConv at h
  split at h
  · rename_i k0 k k1 n hs hd
    obtain ⟨ti, g1, g2⟩ := kind_get hd
    obtain ⟨tj, g3, g4⟩ := kind_get hs
    obtain ⟨⟨ds, hds⟩, _⟩ := tab_agg hT g3
    unfold svArith at h
    cases m <;> obtain ⟨rfl, rfl⟩ := ov h
    · simp only [SV.out, SV.cells, List.headD_cons, tvConv, hds, tab_int hT g1 g2, inr_wrap hob]
    · simp only [SV.out, SV.cells, List.headD_cons, tvConv, hds, tab_int hT g1 g2]
  · rename_i k0 b hs hd
    obtain ⟨ti, g1, g2⟩ := kind_get hd
    obtain ⟨tj, g3, g4⟩ := kind_get hs
    obtain ⟨⟨ds, hds⟩, _⟩ := tab_agg hT g3
    obtain ⟨rfl, rfl⟩ := ov h
    simp only [SV.out, SV.cells, List.headD_cons, tvConv, hds, tab_str hT g1 g2]
  · simp at h
end Go.Sim
