/- A part of the proof: values and stores in plain Lean, and the rules by which a walk is taken. -/
import Derived.Calls
import Derived.Below
import Derived.Laws.Sem
import Derived.Laws.World
import Derived.Laws.Entries
set_option autoImplicit false
set_option linter.unusedSimpArgs false
set_option linter.unusedVariables false
namespace Go.Sim
open Go

/-- Closed values: they hold no reference to an object of the store. -/
inductive CV where
  | int (k : IntKind) (n : Int)
  | bool (b : Bool)
  | str (s : ByteArray)
  | nilptr
  | nilsl
  | nilmap
  | nilfn
  | nilif
  | sl (len : Nat) (cells : List CV)
  | ifc (t : TypeId) (v : CV)
  deriving Inhabited

/-- Abstract values. -/
inductive TV where
  | c (v : CV)
  | ptr (id g off : Nat)
  | view (id g off len : Nat)
  | mapr (id : Nat)
  | taddr (cells : List CV)
  | agg (cells : List TV)
  | tup (vs : List TV)
  | fn (f : Fn) (first captured : List TV)
  | ifc (t : TypeId) (v : TV)
  | junk
  deriving Inhabited

/-- Abstract objects. -/
inductive AObj where
  | cells (g : Nat) (et : TypeId) (esz : Nat) (cs : List TV)
  | map (es : List (TV × TV × Nat)) (clock : Nat)

def AObj.gen : AObj → Nat
  | .cells g _ _ _ => g
  | .map _ _ => 0

/-- What of an object never changes. -/
def AObj.sort : AObj → Option (TypeId × Nat)
  | .cells _ et esz _ => some (et, esz)
  | .map _ _ => none

structure Store where
  next : Nat
  get : Nat → Option AObj

/-- Where the objects lie. -/
structure Env where
  blk : Nat → Nat
  base : Nat → Nat
  sz : Nat → Nat

def live (φ : Env) (S : Store) (b : Nat) : Prop := ∃ id o, S.get id = some o ∧ φ.blk id = b
def Mut (F : Nat → Prop) (φ : Env) (S : Store) (b : Nat) : Prop := F b ∨ live φ S b

inductive CRep (w : World) (M : Nat → Prop) : CV → Value → Prop where
  | int (k : IntKind) (n : Int) : CRep w M (.int k n) (.int k n)
  | bool (b : Bool) : CRep w M (.bool b) (.bool b)
  | str (s : ByteArray) : CRep w M (.str s) (.string s)
  | nilptr : CRep w M .nilptr (.pointer none)
  | nilsl : CRep w M .nilsl (.slice none 0 0)
  | nilmap : CRep w M .nilmap (.map none)
  | nilfn : CRep w M .nilfn .nilFunc
  | nilif : CRep w M .nilif .nilIface
  | sl (len : Nat) (cells : List CV) (b o cap : Nat) (f : Nat → Value) (hcap : len ≤ cap)
      (hf : ∀ j, j < cells.length → w.cell? ⟨b, o + j, none⟩ = some (f j))
      (hm : ∀ j, j < cells.length → ¬ M b)
      (hr : ∀ j (h : j < cells.length), CRep w M cells[j] (f j)) :
      CRep w M (.sl len cells) (.slice (some ⟨b, o, none⟩) len cap)
  | sl0 (ad : Addr) : CRep w M (.sl 0 []) (.slice (some ad) 0 0)
  | slnil : CRep w M (.sl 0 []) (.slice none 0 0)
  | ifc (t : TypeId) (v : CV) (x : Value) (h : CRep w M v x) : CRep w M (.ifc t v) (.iface t x)

/-- One cell's value? -/
def TV.one : TV → Bool
  | .agg _ | .tup _ | .junk => false
  | _ => true

inductive TRep (w : World) (M : Nat → Prop) (φ : Env) (S : Store) : TV → Value → Prop where
  | c (v : CV) (x : Value) (h : CRep w M v x) : TRep w M φ S (.c v) x
  | ptr (id g off : Nat) (a : Addr) (o : AObj) (ho : S.get id = some o) (hg : g ≤ o.gen) (h : g = o.gen → a = ⟨φ.blk id, φ.base id + off, none⟩) :
      TRep w M φ S (.ptr id g off) (.pointer (some a))
  | view (id g off len : Nat) (a : Option Addr) (cap : Nat) (o : AObj) (hcap : len ≤ cap) (he : ∃ b f, a = some ⟨b, f, none⟩) (ho : S.get id = some o) (hg : g ≤ o.gen)
      (h : g = o.gen → (0 < cap → a = some ⟨φ.blk id, φ.base id + off, none⟩) ∧ ∀ et esz, o.sort = some (et, esz) → φ.base id + off + cap * esz ≤ φ.sz id) :
      TRep w M φ S (.view id g off len) (.slice a len cap)
  | mapr (id : Nat) (o : AObj) (ho : S.get id = some o) (h : o.sort = none) : TRep w M φ S (.mapr id) (.map (some (φ.blk id)))
  | taddr (cells : List CV) (b o : Nat) (f : Nat → Value)
      (hf : ∀ j, j < cells.length → w.cell? ⟨b, o + j, none⟩ = some (f j))
      (hm : ∀ j, j < cells.length → ¬ M b)
      (hr : ∀ j (h : j < cells.length), CRep w M cells[j] (f j)) :
      TRep w M φ S (.taddr cells) (.pointer (some ⟨b, o, none⟩))
  | agg (l : List TV) (cs : Array Value) (hl : l.length = cs.size) (h : ∀ i (hi : i < l.length) v, cs[i]? = some v → TRep w M φ S l[i] v) :
      TRep w M φ S (.agg l) (.agg cs)
  | tup (l : List TV) (cs : Array Value) (hl : l.length = cs.size) (h : ∀ i (hi : i < l.length) v, cs[i]? = some v → TRep w M φ S l[i] v) :
      TRep w M φ S (.tup l) (.tuple cs)
  | fn (f : Fn) (l1 l2 : List TV) (c1 c2 : Array Value) (hl1 : l1.length = c1.size) (hl2 : l2.length = c2.size)
      (h1 : ∀ i (hi : i < l1.length) v, c1[i]? = some v → TRep w M φ S l1[i] v)
      (h2 : ∀ i (hi : i < l2.length) v, c2[i]? = some v → TRep w M φ S l2[i] v) : TRep w M φ S (.fn f l1 l2) (.func f c1 c2)
  | ifc (t : TypeId) (v : TV) (x : Value) (h : TRep w M φ S v x) : TRep w M φ S (.ifc t v) (.iface t x)
  | junk (x : Value) : TRep w M φ S .junk x

/-- An object of the store in memory. -/
def ObjRep (w : World) (M : Nat → Prop) (φ : Env) (S : Store) (id : Nat) : AObj → Prop
  | .cells _ et _ cs => ∃ arr, w.heap[φ.blk id]? = some (.cells arr et (0, 0)) ∧ arr.size = φ.sz id ∧ φ.base id + cs.length ≤ arr.size ∧
      ∀ i (h : i < cs.length) v, arr[φ.base id + i]? = some v → cs[i].one = true ∧ TRep w M φ S cs[i] v
  | .map es clock => ∃ arr : Array MapEntry, w.heap[φ.blk id]? = some (.map arr clock) ∧ arr.size = es.length ∧
      ∀ i (h : i < es.length) (e : MapEntry), arr[i]? = some e → TRep w M φ S es[i].1 e.key ∧ TRep w M φ S es[i].2.1 e.val ∧ es[i].2.2 = e.born

structure StoreOK (F : Nat → Prop) (φ : Env) (S : Store) (w : World) : Prop where
  obj : ∀ id o, S.get id = some o → ObjRep w (Mut F φ S) φ S id o
  fresh : ∀ id, S.next ≤ id → S.get id = none
  inj : ∀ i j o o', S.get i = some o → S.get j = some o' → φ.blk i = φ.blk j → i = j
  far : ∀ id o, S.get id = some o → ¬ F (φ.blk id)
  old : ∀ b, F b → b < w.heap.size

structure Ext (φ : Env) (S : Store) (w : World) (φ' : Env) (S' : Store) (w' : World) : Prop where
  size : w.heap.size ≤ w'.heap.size
  kept : ∀ b, b < w.heap.size → ¬ live φ S b → w'.heap[b]? = w.heap[b]?
  liv : ∀ b, b < w.heap.size → live φ' S' b → live φ S b
  objs : ∀ id o, S.get id = some o → ∃ o', S'.get id = some o' ∧ o.gen ≤ o'.gen ∧ o'.sort = o.sort ∧
    (o.gen = o'.gen → φ'.blk id = φ.blk id ∧ φ'.base id = φ.base id ∧ φ'.sz id = φ.sz id)
  os : w'.os = w.os
  tape : w'.tape = w.tape
  output : w'.output = w.output

theorem Ext.refl (φ : Env) (S : Store) (w : World) : Ext φ S w φ S w :=
  ⟨Nat.le_refl _, fun _ _ _ => rfl, fun _ _ h => h, fun _ o h => ⟨o, h, Nat.le_refl _, rfl, fun _ => ⟨rfl, rfl, rfl⟩⟩, rfl, rfl, rfl⟩

theorem Ext.trans {φ φ1 φ2 : Env} {S S1 S2 : Store} {w w1 w2 : World} (h : Ext φ S w φ1 S1 w1) (k : Ext φ1 S1 w1 φ2 S2 w2) : Ext φ S w φ2 S2 w2 where
  size := Nat.le_trans h.size k.size
  kept b hb hl := (k.kept b (Nat.lt_of_lt_of_le hb h.size) fun hl1 => hl (h.liv b hb hl1)).trans (h.kept b hb hl)
  liv b hb hl := h.liv b hb (k.liv b (Nat.lt_of_lt_of_le hb h.size) hl)
  objs id o ho := by
    obtain ⟨o1, h1, g1, s1, e1⟩ := h.objs id o ho
    obtain ⟨o2, h2, g2, s2, e2⟩ := k.objs id o1 h1
    refine ⟨o2, h2, Nat.le_trans g1 g2, s2.trans s1, fun e => ?_⟩
    have ha : o.gen = o1.gen := by omega
    have hb : o1.gen = o2.gen := by omega
    obtain ⟨a1, a2, a3⟩ := e1 ha
    obtain ⟨b1, b2, b3⟩ := e2 hb
    exact ⟨b1.trans a1, b2.trans a2, b3.trans a3⟩
  os := k.os.trans h.os
  tape := k.tape.trans h.tape
  output := k.output.trans h.output

theorem cell_lt {w : World} {a : Addr} {v : Value} (h : w.cell? a = some v) : a.block < w.heap.size := by
  unfold World.cell? at h
  rcases Nat.lt_or_ge a.block w.heap.size with hl | hl
  · exact hl
  · simp [Array.getElem?_eq_none hl] at h

theorem cell_same {w w' : World} {b o : Nat} {v : Value} (h : w.cell? ⟨b, o, none⟩ = some v) (e : w'.heap[b]? = w.heap[b]?) : w'.cell? ⟨b, o, none⟩ = some v := by
  unfold World.cell? at h ⊢
  simp only at h ⊢
  rw [e]
  exact h

theorem CRep.mono {w w' : World} {M M' : Nat → Prop} (hk : ∀ b, b < w.heap.size → ¬ M b → w'.heap[b]? = w.heap[b]?) (hM : ∀ b, b < w.heap.size → M' b → M b)
    {v : CV} {x : Value} (h : CRep w M v x) : CRep w' M' v x := by
  induction h with
  | int k n => exact .int k n
  | bool b => exact .bool b
  | str s => exact .str s
  | nilptr => exact .nilptr
  | nilsl => exact .nilsl
  | nilmap => exact .nilmap
  | nilfn => exact .nilfn
  | nilif => exact .nilif
  | sl len cells b o cap f hcap hf hm _ ih =>
    refine .sl len cells b o cap f hcap (fun j hj => ?_) (fun j hj hb => ?_) (fun j hj => ih j hj)
    · have hc := hf j hj
      exact cell_same hc (hk b (cell_lt hc) (hm j hj))
    · exact hm j hj (hM b (cell_lt (hf j hj)) hb)
  | sl0 ad => exact .sl0 ad
  | slnil => exact .slnil
  | ifc t v x _ ih => exact .ifc t v x ih

theorem TRep.mono {w w' : World} {M M' : Nat → Prop} {φ φ' : Env} {S S' : Store} (hk : ∀ b, b < w.heap.size → ¬ M b → w'.heap[b]? = w.heap[b]?) (hM : ∀ b, b < w.heap.size → M' b → M b)
    (ho : ∀ id o, S.get id = some o → ∃ o', S'.get id = some o' ∧ o.gen ≤ o'.gen ∧ o'.sort = o.sort ∧
      (o.gen = o'.gen → φ'.blk id = φ.blk id ∧ φ'.base id = φ.base id ∧ φ'.sz id = φ.sz id))
    {v : TV} {x : Value} (h : TRep w M φ S v x) : TRep w' M' φ' S' v x := by
  induction h with
  | c v x h => exact .c v x (h.mono hk hM)
  | ptr id g off a o h1 h2 h3 =>
    obtain ⟨o', g1, g2, g3, g4⟩ := ho id o h1
    refine .ptr id g off a o' g1 (Nat.le_trans h2 g2) fun e => ?_
    have e1 : g = o.gen := by omega
    obtain ⟨a1, a2, _⟩ := g4 (by omega)
    rw [h3 e1, a1, a2]
  | view id g off len a cap o hcap he h1 h2 h3 =>
    obtain ⟨o', g1, g2, g3, g4⟩ := ho id o h1
    refine .view id g off len a cap o' hcap he g1 (Nat.le_trans h2 g2) fun e => ?_
    have e1 : g = o.gen := by omega
    obtain ⟨a1, a2, a3⟩ := g4 (by omega)
    obtain ⟨b1, b2⟩ := h3 e1
    refine ⟨fun hc => by rw [b1 hc, a1, a2], fun et esz hs => ?_⟩
    rw [a2, a3]
    exact b2 et esz (by rw [← g3]; exact hs)
  | mapr id o h1 h2 =>
    obtain ⟨o', g1, g2, g3, g4⟩ := ho id o h1
    have hs' : o'.sort = none := g3.trans h2
    have e : o.gen = o'.gen := by
      cases o <;> simp [AObj.sort] at h2
      cases o' <;> simp [AObj.sort] at hs'
      rfl
    rw [← (g4 e).1]
    exact .mapr id o' g1 hs'
  | taddr cells b o f hf hm hr =>
    refine .taddr cells b o f (fun j hj => ?_) (fun j hj hb => ?_) (fun j hj => (hr j hj).mono hk hM)
    · have hc := hf j hj
      exact cell_same hc (hk b (cell_lt hc) (hm j hj))
    · exact hm j hj (hM b (cell_lt (hf j hj)) hb)
  | agg l cs hl _ ih => exact .agg l cs hl ih
  | tup l cs hl _ ih => exact .tup l cs hl ih
  | fn f l1 l2 c1 c2 hl1 hl2 _ _ ih1 ih2 => exact .fn f l1 l2 c1 c2 hl1 hl2 ih1 ih2
  | ifc t v x _ ih => exact .ifc t v x ih
  | junk x => exact .junk x

theorem Mut.of_ext {F : Nat → Prop} {φ φ' : Env} {S S' : Store} {w w' : World} (h : Ext φ S w φ' S' w') (b : Nat) (hb : b < w.heap.size) (hm : Mut F φ' S' b) : Mut F φ S b :=
  hm.imp id (h.liv b hb)

theorem TRep.ext {F : Nat → Prop} {φ φ' : Env} {S S' : Store} {w w' : World} (h : Ext φ S w φ' S' w') {v : TV} {x : Value} (hr : TRep w (Mut F φ S) φ S v x) :
    TRep w' (Mut F φ' S') φ' S' v x :=
  hr.mono (fun b hb hm => h.kept b hb fun hl => hm (.inr hl)) (fun b hb hm => Mut.of_ext h b hb hm) h.objs

/-- The abstract state of a frame. -/
structure SRep (N : Nat) (F : Nat → Prop) (φ : Env) (T : Nat → TV) (S : Store) (a : Act) (w : World) : Prop where
  size : a.tmps.size = N
  tmps : ∀ t, TRep w (Mut F φ S) φ S (T t) (a.tmps.getD t undef)
  defers : a.defers = []
  store : StoreOK F φ S w

def awp (P : Program) (N : Nat) (c : Code) (Q : Exit → (Nat → TV) → Store → Prop) (T : Nat → TV) (S : Store) : Prop :=
  ∀ (F : Nat → Prop) (φ : Env) (a : Act) (w : World), SRep N F φ T S a w →
    c.wp P (fun e a' w' => ∃ φ' T' S', Q e T' S' ∧ SRep N F φ' T' S' a' w' ∧ Ext φ S w φ' S' w') a w

section rules
variable {P : Program} {N : Nat} {Q : Exit → (Nat → TV) → Store → Prop} {T : Nat → TV} {S : Store}

theorem awp_mono {c : Code} {Q' : Exit → (Nat → TV) → Store → Prop} (h : awp P N c Q T S) (hq : ∀ e T S, Q e T S → Q' e T S) : awp P N c Q' T S :=
  fun F φ a w hs => wp_mono (h F φ a w hs) fun _ _ _ ⟨φ', T', S', q, r, x⟩ => ⟨φ', T', S', hq _ _ _ q, r, x⟩

theorem awp_skip (h : Q .normal T S) : awp P N .skip Q T S := fun _ φ _ w hs => wp_skip ⟨φ, T, S, h, hs, Ext.refl φ S w⟩
theorem awp_label {l : Nat} (h : Q .normal T S) : awp P N (.label l) Q T S := fun _ φ _ w hs => wp_label ⟨φ, T, S, h, hs, Ext.refl φ S w⟩
theorem awp_exit {id : Nat} (h : Q (.exit id) T S) : awp P N (.exit id) Q T S := fun _ φ _ w hs => wp_exit ⟨φ, T, S, h, hs, Ext.refl φ S w⟩
theorem awp_goto {l : Nat} (h : Q (.goto l) T S) : awp P N (.goto l) Q T S := fun _ φ _ w hs => wp_goto ⟨φ, T, S, h, hs, Ext.refl φ S w⟩
theorem awp_ret (h : Q .ret T S) : awp P N .ret Q T S := fun _ φ _ w hs => wp_ret ⟨φ, T, S, h, hs, Ext.refl φ S w⟩

def Then (next : (Nat → TV) → Store → Prop) (Q : Exit → (Nat → TV) → Store → Prop) : Exit → (Nat → TV) → Store → Prop
  | .normal, T, S => next T S
  | e, T, S => Q e T S

theorem awp_seq {x y : Code} (h : awp P N x (Then (awp P N y Q) Q) T S) : awp P N (.seq x y) Q T S := by
  intro F φ a w hs
  refine wp_seq (wp_mono (h F φ a w hs) ?_)
  rintro e a1 w1 ⟨φ1, T1, S1, hq, hs1, hx1⟩
  cases e with
  | normal =>
    exact wp_mono (hq F φ1 a1 w1 hs1) fun _ _ _ ⟨φ2, T2, S2, q2, r2, x2⟩ => ⟨φ2, T2, S2, q2, r2, hx1.trans x2⟩
  | _ => exact ⟨φ1, T1, S1, hq, hs1, hx1⟩

theorem awp_cond {c : Operand} {x y : Code} {b : Bool} (hc : ∀ F φ a w, SRep N F φ T S a w → a.eval c = .bool b)
    (h : awp P N (if b then x else y) Q T S) : awp P N (.cond c x y) Q T S :=
  fun F φ a w hs => wp_cond (hc F φ a w hs) (h F φ a w hs)

def InBlock (id : Nat) (Q : Exit → (Nat → TV) → Store → Prop) : Exit → (Nat → TV) → Store → Prop
  | .exit id', T, S => if id' = id then Q .normal T S else Q (.exit id') T S
  | e, T, S => Q e T S

theorem awp_block {id : Nat} {c : Code} (h : awp P N c (InBlock id Q) T S) : awp P N (.block id c) Q T S := by
  intro F φ a w hs
  refine wp_block (wp_mono (h F φ a w hs) ?_)
  rintro e a1 w1 ⟨φ1, T1, S1, hq, hs1, hx1⟩
  cases e with
  | exit id' =>
    simp only [InBlock, Exit.inBlock] at hq ⊢
    split at hq
    · rename_i e; rw [if_pos e]; exact ⟨φ1, T1, S1, hq, hs1, hx1⟩
    · rename_i e; rw [if_neg e]; exact ⟨φ1, T1, S1, hq, hs1, hx1⟩
  | _ => exact ⟨φ1, T1, S1, hq, hs1, hx1⟩

theorem awp_loop {c : Code} (I : Nat → (Nat → TV) → Store → Prop) (n : Nat) (h0 : I n T S)
    (round : ∀ n T S, I n T S → awp P N c (Then (fun T' S' => ∃ m, m < n ∧ I m T' S') Q) T S) : awp P N (.loop c) Q T S := by
  intro F φ a w hs
  have key : ∀ n, ∀ T S φ1 a w, I n T S → SRep N F φ1 T S a w → ∀ (b : Frame) (k : List Item) (cs : List Frame),
      ∃ e a' w', (∃ φ' T' S', Q e T' S' ∧ SRep N F φ' T' S' a' w' ∧ Ext φ1 S w φ' S' w') ∧
        Arrives P (lone (b.at a (.code c :: .inLoop c :: k)) cs w) b k cs e a' w' := by
    intro n
    induction n using Nat.strongRecOn with
    | _ n ih =>
      intro T S φ1 a w hI hs b k cs
      obtain ⟨e, a1, w1, ⟨φ', T', S', hq, hs1, hx1⟩, harr⟩ := round n T S hI F φ1 a w hs b (.inLoop c :: k) cs
      cases e with
      | normal =>
        obtain ⟨m, hlt, hI1⟩ := hq
        obtain ⟨e2, a2, w2, ⟨φ2, T2, S2, q2, r2, x2⟩, harr2⟩ := ih m hlt T' S' φ' a1 w1 hI1 hs1 b k cs
        exact ⟨e2, a2, w2, ⟨φ2, T2, S2, q2, r2, hx1.trans x2⟩, .of_steps (Steps.trans harr (.one step_inLoop)) harr2⟩
      | exit id => exact ⟨_, a1, w1, ⟨φ', T', S', hq, hs1, hx1⟩, .pass (x := .inLoop c) rfl (fun _ _ => .inl (by simp)) harr⟩
      | goto l => exact ⟨_, a1, w1, ⟨φ', T', S', hq, hs1, hx1⟩, .pass (x := .inLoop c) rfl (fun _ _ => .inl (by simp)) harr⟩
      | ret => exact ⟨_, a1, w1, ⟨φ', T', S', hq, hs1, hx1⟩, .pass (x := .inLoop c) rfl (fun _ _ => .inl (by simp)) harr⟩
      | panic ch => exact ⟨_, a1, w1, ⟨φ', T', S', hq, hs1, hx1⟩, .pass (x := .inLoop c) rfl (fun _ _ => .inl (by simp)) harr⟩
      | outgrown => exact ⟨_, a1, w1, ⟨φ', T', S', hq, hs1, hx1⟩, .pass (x := .inLoop c) rfl (fun _ _ => .inl (by simp)) harr⟩
  intro b k cs
  obtain ⟨e, a', w', hq, harr⟩ := key n T S φ a w h0 hs b k cs
  exact ⟨e, a', w', hq, .of_steps (.one step_loop) harr⟩
end rules
end Go.Sim
