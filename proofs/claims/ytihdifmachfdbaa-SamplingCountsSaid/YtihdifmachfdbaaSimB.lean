/- A part of the proof: values and stores in plain Lean, and the rules by which a walk is taken. -/
import Derived.Test.YtihdifmachfdbaaSimA
import Derived.Laws.CopyRow
import Derived.ChangeKeysEq
set_option autoImplicit false
set_option linter.unusedSimpArgs false
set_option linter.unusedVariables false
namespace Go.Sim
open Go

/-! ### one operation, and a region in the text's order -/

def upd (T : Nat → TV) (d : Nat) (v : TV) : Nat → TV := fun t => if t = d then v else T t
def put (T : Nat → TV) (dst : Option Tmp) (v : TV) : Nat → TV := match dst with
  | some d => upd T d v
  | none => T

theorem upd_at (T : Nat → TV) (d t : Nat) (v : TV) : upd T d v t = if t = d then v else T t := rfl

theorem upon_mono {P : Program} {o : Oper} {a : Act} {next next' : Act → World → Prop} {Q Q' : Exit → Act → World → Prop}
    (hn : ∀ a w, next a w → next' a w) (hq : ∀ e a w, Q e a w → Q' e a w) {r : Result Next} (h : o.upon P a next Q r) : o.upon P a next' Q' r := by
  unfold Oper.upon at h ⊢
  split at h
  · exact hn _ _ h
  · exact hn _ _ h
  · exact hn _ _ h
  · refine Calls.mono h ?_
    intro e w' he
    cases e with
    | returned v => exact hn _ _ he
    | panicked c => exact hq _ _ _ he
    | outgrown => obtain ⟨a, w, h⟩ := he; exact ⟨a, w, hq _ _ _ h⟩
  · exact Rows.mono h fun _ _ => hn _ _
  · exact hq _ _ _ h
  · exact h.elim

def dstOk (N : Nat) (o : Oper) : Bool := match o.dst with
  | some d => decide (d < N)
  | none => true

def awpOp (P : Program) (N : Nat) (o : Oper) (K : (Nat → TV) → Store → Prop) (T : Nat → TV) (S : Store) : Prop :=
  ∀ (F : Nat → Prop) (φ : Env) (a : Act) (w : World), SRep N F φ T S a w →
    o.wp P a w (fun a' w' => ∃ φ' T' S', K T' S' ∧ SRep N F φ' T' S' a' w' ∧ Ext φ S w φ' S' w') (fun _ _ _ => False)

theorem awpOp_mono {P : Program} {N : Nat} {o : Oper} {K K' : (Nat → TV) → Store → Prop} {T : Nat → TV} {S : Store} (h : awpOp P N o K T S) (hk : ∀ T S, K T S → K' T S) : awpOp P N o K' T S :=
  fun F φ a w hs => upon_mono (fun _ _ ⟨φ', T', S', k, r, x⟩ => ⟨φ', T', S', hk _ _ k, r, x⟩) (fun _ _ _ h => h) (h F φ a w hs)

theorem SRep.put {N : Nat} {F : Nat → Prop} {φ φ' : Env} {T : Nat → TV} {S S' : Store} {a : Act} {w w' : World} (hs : SRep N F φ T S a w) (hx : Ext φ S w φ' S' w')
    (hok : StoreOK F φ' S' w') {dst : Option Tmp} (hd : ∀ d, dst = some d → d < N) {v : TV} {x : Value} (hv : TRep w' (Mut F φ' S') φ' S' v x) :
    SRep N F φ' (put T dst v) S' (a.put dst x) w' := by
  cases dst with
  | none => exact ⟨hs.size, fun t => (hs.tmps t).ext hx, hs.defers, hok⟩
  | some d =>
    have hdN := hd d rfl
    refine ⟨by simp [Act.put, hs.size], fun t => ?_, hs.defers, hok⟩
    simp only [Sim.put, upd, Act.put]
    by_cases e : t = d
    · subst e
      have hlt : t < a.tmps.size := by rw [hs.size]; exact hdN
      simp [Array.getD, hlt, hv]
    · rw [if_neg e]
      have := (hs.tmps t).ext (F := F) hx
      have e2 : (a.tmps.setIfInBounds d x).getD t undef = a.tmps.getD t undef := by
        simp [Array.getD_eq_getD_getElem?, Array.getElem?_setIfInBounds, Ne.symm e]
      rw [e2]
      exact this

theorem awpOp_value {P : Program} {N : Nat} {o : Oper} {K : (Nat → TV) → Store → Prop} {T : Nat → TV} {S S' : Store} {v : TV} (hd : dstOk N o = true)
    (h : ∀ F φ a w, SRep N F φ T S a w → ∃ x w' φ', (execOp a.eval o).run P w = .ok (.value x) w' ∧ StoreOK F φ' S' w' ∧ Ext φ S w φ' S' w' ∧ TRep w' (Mut F φ' S') φ' S' v x)
    (hK : K (put T o.dst v) S') : awpOp P N o K T S := by
  intro F φ a w hs
  obtain ⟨x, w', φ', hr, hok, hx, hv⟩ := h F φ a w hs
  unfold Oper.wp
  rw [hr, Oper.upon_value]
  exact ⟨φ', _, S', hK, hs.put hx hok (fun d e => by simpa [dstOk, e] using hd) hv, hx⟩

theorem awpOp_still {P : Program} {N : Nat} {o : Oper} {K : (Nat → TV) → Store → Prop} {T : Nat → TV} {S : Store} {v : TV} (hd : dstOk N o = true)
    (h : ∀ F φ a w, SRep N F φ T S a w → ∃ x, (execOp a.eval o).run P w = .ok (.value x) w ∧ TRep w (Mut F φ S) φ S v x)
    (hK : K (put T o.dst v) S) : awpOp P N o K T S :=
  awpOp_value hd (fun F φ a w hs => by
    obtain ⟨x, hr, hv⟩ := h F φ a w hs
    exact ⟨x, w, φ, hr, hs.store, Ext.refl φ S w, hv⟩) hK

theorem awpOp_skip {P : Program} {N : Nat} {o : Oper} {K : (Nat → TV) → Store → Prop} {T : Nat → TV} {S S' : Store} (hd : dstOk N o = true)
    (h : ∀ F φ a w, SRep N F φ T S a w → ∃ w' φ', (execOp a.eval o).run P w = .ok .skip w' ∧ StoreOK F φ' S' w' ∧ Ext φ S w φ' S' w')
    (hK : K (put T o.dst .junk) S') : awpOp P N o K T S := by
  intro F φ a w hs
  obtain ⟨w', φ', hr, hok, hx⟩ := h F φ a w hs
  unfold Oper.wp
  rw [hr, Oper.upon_skip]
  exact ⟨φ', _, S', hK, hs.put hx hok (fun d e => by simpa [dstOk, e] using hd) (.junk _), hx⟩

/-! ### the store -/

def Store.push (S : Store) (o : AObj) : Store := { next := S.next + 1, get := fun i => if i = S.next then some o else S.get i }
def Store.set (S : Store) (id : Nat) (o : AObj) : Store := { S with get := fun i => if i = id then some o else S.get i }
def Store.empty : Store := { next := 0, get := fun _ => none }

theorem get_push (S : Store) (o : AObj) (i : Nat) : (S.push o).get i = if i = S.next then some o else S.get i := rfl
theorem get_set (S : Store) (id : Nat) (o : AObj) (i : Nat) : (S.set id o).get i = if i = id then some o else S.get i := rfl
theorem next_push (S : Store) (o : AObj) : (S.push o).next = S.next + 1 := rfl
theorem next_set (S : Store) (id : Nat) (o : AObj) : (S.set id o).next = S.next := rfl
theorem get_empty (i : Nat) : Store.empty.get i = none := rfl
theorem next_empty : Store.empty.next = 0 := rfl

/-- The places behind a new block. -/
def Env.new (φ : Env) (id b n : Nat) : Env :=
  { blk := fun i => if i = id then b else φ.blk i, base := fun i => if i = id then 0 else φ.base i, sz := fun i => if i = id then n else φ.sz i }

def World.pushed (w : World) (o : Obj) : World := { w with heap := w.heap.push o }

theorem pushed_old (w : World) (o : Obj) (b : Nat) (h : b < w.heap.size) : (World.pushed w o).heap[b]? = w.heap[b]? := by
  simp only [World.pushed, Array.getElem?_push]
  rw [if_neg (by omega)]

theorem pushed_new (w : World) (o : Obj) : (World.pushed w o).heap[w.heap.size]? = some o := by
  show (w.heap.push o)[w.heap.size]? = _
  simp

theorem ext_push {F : Nat → Prop} {φ : Env} {S : Store} {w : World} (hok : StoreOK F φ S w) (ob : Obj) (n : Nat) (o : AObj) :
    Ext φ S w (φ.new S.next w.heap.size n) (S.push o) (World.pushed w ob) where
  size := by simp [World.pushed]
  kept b hb _ := pushed_old w ob b hb
  liv b hb := by
    rintro ⟨id, o', h1, h2⟩
    rw [get_push] at h1
    by_cases e : id = S.next
    · subst e
      simp [Env.new] at h2
      omega
    · rw [if_neg e] at h1
      simp only [Env.new, if_neg e] at h2
      exact ⟨id, o', h1, h2⟩
  objs id o' h := by
    have hne : id ≠ S.next := fun e => by
      have := hok.fresh id (by omega)
      rw [this] at h
      exact absurd h (by simp)
    refine ⟨o', by rw [get_push, if_neg hne]; exact h, Nat.le_refl _, rfl, fun _ => ?_⟩
    simp [Env.new, hne]
  os := rfl
  tape := rfl
  output := rfl

theorem ok_push {F : Nat → Prop} {φ : Env} {S : Store} {w : World} (hok : StoreOK F φ S w) (ob : Obj) (n : Nat) (o : AObj)
    (ho : ObjRep (World.pushed w ob) (Mut F (φ.new S.next w.heap.size n) (S.push o)) (φ.new S.next w.heap.size n) (S.push o) S.next o) :
    StoreOK F (φ.new S.next w.heap.size n) (S.push o) (World.pushed w ob) := by
  have hx := ext_push hok ob n o
  have hlt : ∀ id o', S.get id = some o' → id ≠ S.next := fun id o' h e => by
    have := hok.fresh id (by omega)
    rw [this] at h
    exact absurd h (by simp)
  have hb : ∀ id o', S.get id = some o' → φ.blk id < w.heap.size := fun id o' h => by
    have := hok.obj id o' h
    cases o' with
    | cells g et esz cs => obtain ⟨arr, h1, _⟩ := this; exact (Array.getElem?_eq_some_iff.1 h1).1
    | map es c => obtain ⟨arr, h1, _⟩ := this; exact (Array.getElem?_eq_some_iff.1 h1).1
  refine ⟨fun id o' h => ?_, fun id h => ?_, fun i j o1 o2 h1 h2 he => ?_, fun id o' h => ?_, fun b h => ?_⟩
  · rw [get_push] at h
    by_cases e : id = S.next
    · subst e
      simp at h
      subst h
      exact ho
    · rw [if_neg e] at h
      have h3 := hok.obj id o' h
      have hbl := hb id o' h
      cases o' with
      | cells g et esz cs =>
        obtain ⟨arr, g1, g2, g3, g4⟩ := h3
        refine ⟨arr, ?_, ?_, ?_, fun i hi v hv => ?_⟩
        · simp only [Env.new, if_neg e]
          rw [pushed_old w ob _ hbl]
          exact g1
        · simp only [Env.new, if_neg e]; exact g2
        · simp only [Env.new, if_neg e]; exact g3
        · simp only [Env.new, if_neg e] at hv
          exact ⟨(g4 i hi v hv).1, (g4 i hi v hv).2.ext hx⟩
      | map es c =>
        obtain ⟨arr, g1, g2, g3⟩ := h3
        refine ⟨arr, ?_, g2, fun i hi e' he' => ?_⟩
        · simp only [Env.new, if_neg e]
          rw [pushed_old w ob _ hbl]
          exact g1
        · obtain ⟨a1, a2, a3⟩ := g3 i hi e' he'
          exact ⟨a1.ext hx, a2.ext hx, a3⟩
  · rw [next_push] at h
    rw [get_push, if_neg (by omega)]
    exact hok.fresh id (by omega)
  · rw [get_push] at h1 h2
    by_cases e1 : i = S.next <;> by_cases e2 : j = S.next
    · omega
    · simp only [Env.new, e1, if_true, if_neg e2] at he
      rw [if_neg e2] at h2
      have := hb j o2 h2
      omega
    · simp only [Env.new, e2, if_true, if_neg e1] at he
      rw [if_neg e1] at h1
      have := hb i o1 h1
      omega
    · simp only [Env.new, if_neg e1, if_neg e2] at he
      rw [if_neg e1] at h1
      rw [if_neg e2] at h2
      exact hok.inj i j o1 o2 h1 h2 he
  · rw [get_push] at h
    by_cases e : id = S.next
    · simp only [Env.new, e, if_true]
      intro hF
      have := hok.old _ hF
      omega
    · simp only [Env.new, if_neg e]
      rw [if_neg e] at h
      exact hok.far id o' h
  · have := hok.old b h
    simp only [World.pushed, Array.size_push]
    omega

/-- A new block of cells. -/
theorem push_cells {F : Nat → Prop} {φ : Env} {S : Store} {w : World} (hok : StoreOK F φ S w) (et : TypeId) (esz : Nat) (cs : List TV) (arr : Array Value)
    (hl : cs.length ≤ arr.size) (h : ∀ i (hi : i < cs.length) v, arr[i]? = some v → cs[i].one = true ∧ TRep w (Mut F φ S) φ S cs[i] v) :
    StoreOK F (φ.new S.next w.heap.size arr.size) (S.push (.cells 0 et esz cs)) (World.pushed w (.cells arr et)) ∧
    Ext φ S w (φ.new S.next w.heap.size arr.size) (S.push (.cells 0 et esz cs)) (World.pushed w (.cells arr et)) := by
  have hx := ext_push hok (.cells arr et) arr.size (.cells 0 et esz cs)
  refine ⟨ok_push hok _ _ _ ⟨arr, ?_, ?_, ?_, fun i hi v hv => ?_⟩, hx⟩
  · simp only [Env.new, if_true]
    exact pushed_new w _
  · simp [Env.new]
  · simp [Env.new]
    exact hl
  · simp only [Env.new, if_true, Nat.zero_add] at hv
    exact ⟨(h i hi v hv).1, (h i hi v hv).2.ext hx⟩

/-- Cells of a block are written. -/
theorem set_cells {F : Nat → Prop} {φ : Env} {S : Store} {w : World} (hok : StoreOK F φ S w) {id g : Nat} {et : TypeId} {esz : Nat} {cs cs' : List TV} {arr arr' : Array Value}
    (ho : S.get id = some (.cells g et esz cs)) (ha : w.heap[φ.blk id]? = some (.cells arr et (0, 0))) (hsz : arr'.size = arr.size) (hsz0 : arr.size = φ.sz id)
    (hl : φ.base id + cs'.length ≤ arr.size)
    (h : ∀ i (hi : i < cs'.length) v, arr'[φ.base id + i]? = some v → cs'[i].one = true ∧ TRep w (Mut F φ S) φ S cs'[i] v) :
    StoreOK F φ (S.set id (.cells g et esz cs')) (w.setRow (φ.blk id) arr') ∧ Ext φ S w φ (S.set id (.cells g et esz cs')) (w.setRow (φ.blk id) arr') := by
  have hx : Ext φ S w φ (S.set id (.cells g et esz cs')) (w.setRow (φ.blk id) arr') := by
    refine ⟨by simp, fun b hb hl => ?_, fun b hb => ?_, fun i o hi => ?_, rfl, rfl, rfl⟩
    · exact setRow_other w _ b arr' fun e => hl ⟨id, _, ho, e.symm⟩
    · rintro ⟨i, o, h1, h2⟩
      rw [get_set] at h1
      by_cases e : i = id
      · subst e
        exact ⟨i, _, ho, h2⟩
      · rw [if_neg e] at h1
        exact ⟨i, o, h1, h2⟩
    · by_cases e : i = id
      · subst e
        rw [ho] at hi
        injection hi with hi
        subst hi
        exact ⟨.cells g et esz cs', by rw [get_set, if_pos rfl], Nat.le_refl _, rfl, fun _ => ⟨rfl, rfl, rfl⟩⟩
      · exact ⟨o, by rw [get_set, if_neg e]; exact hi, Nat.le_refl _, rfl, fun _ => ⟨rfl, rfl, rfl⟩⟩
  refine ⟨⟨fun i o hi => ?_, fun i hi => ?_, fun i j o1 o2 h1 h2 he => ?_, fun i o hi => ?_, fun b hb => by simpa using hok.old b hb⟩, hx⟩
  · rw [get_set] at hi
    by_cases e : i = id
    · subst e
      simp at hi
      subst hi
      refine ⟨arr', setRow_heap w _ arr arr' et (0, 0) ha, by omega, by omega, fun j hj v hv => ?_⟩
      exact ⟨(h j hj v hv).1, (h j hj v hv).2.ext hx⟩
    · rw [if_neg e] at hi
      have hne : φ.blk i ≠ φ.blk id := fun e' => e (hok.inj i id _ _ hi ho e')
      have h3 := hok.obj i o hi
      cases o with
      | cells g' et' esz' cs1 =>
        obtain ⟨arr1, g1, g2, g3, g4⟩ := h3
        refine ⟨arr1, by rw [setRow_other w _ _ arr' hne]; exact g1, g2, g3, fun j hj v hv => ?_⟩
        exact ⟨(g4 j hj v hv).1, (g4 j hj v hv).2.ext hx⟩
      | map es c =>
        obtain ⟨arr1, g1, g2, g3⟩ := h3
        refine ⟨arr1, by rw [setRow_other w _ _ arr' hne]; exact g1, g2, fun j hj e' he' => ?_⟩
        obtain ⟨a1, a2, a3⟩ := g3 j hj e' he'
        exact ⟨a1.ext hx, a2.ext hx, a3⟩
  · rw [next_set] at hi
    have hne : i ≠ id := fun e => by
      subst e
      rw [hok.fresh i hi] at ho
      exact absurd ho (by simp)
    rw [get_set, if_neg hne]
    exact hok.fresh i hi
  · rw [get_set] at h1 h2
    by_cases e1 : i = id <;> by_cases e2 : j = id
    · omega
    · subst e1
      rw [if_neg e2] at h2
      exact hok.inj i j _ _ ho h2 he
    · subst e2
      rw [if_neg e1] at h1
      exact hok.inj i j _ _ h1 ho he
    · rw [if_neg e1] at h1
      rw [if_neg e2] at h2
      exact hok.inj i j o1 o2 h1 h2 he
  · rw [get_set] at hi
    by_cases e : i = id
    · subst e
      exact hok.far i _ ho
    · rw [if_neg e] at hi
      exact hok.far i o hi
end Go.Sim
