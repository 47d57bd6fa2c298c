/- A part of the proof: values and stores in plain Lean, and the rules by which a walk is taken. -/
import Derived.Test.YtihdifmachfdbaaSimL
import Derived.Orders
import Derived.Scope
set_option autoImplicit false
set_option linter.unusedSimpArgs false
set_option linter.unusedVariables false
namespace Go.Sim
open Go

/-! ### regions that draw their order -/
inductive Cls where
  | pure | rd | shp | alc | st | fn | other
  deriving DecidableEq

def clsOf (P : Program) : Op → Cls
  | .move _ | .assign _ | .pick .. | .binOp .. | .unOp .. | .extract .. | .nilCheck _ | .field .. | .index .. | .fieldAddr .. | .build .. | .makeFunc .. | .makeInterface .. => .pure
  | .convert s _ _ => match P.underlying s with
    | some (.slice _) => .other
    | _ => .pure
  | .indexAddr .. => .shp
  | .slice _ _ _ _ none => .shp
  | .load .. => .rd
  | .store .. => .st
  | .alloc .. | .box .. | .buildSlice .. | .makeSlice .. => .alc
  | .call c => match c.callee with
    | .builtin .len => match c.argTypes.toList with
      | [t] => match P.underlying t with
        | some (.slice _) | some .string | some (.array ..) | some (.pointer _) => .pure
        | _ => .other
      | _ => .other
    | .builtin .max | .builtin .min => .pure
    | .value _ => .fn
    | _ => .other
  | _ => .other

/-- What may change places. Where b is true, a call is of a function whose answer is known whatever lies in the store; else it may read the store. -/
def clsOk (b : Bool) : Cls → Cls → Bool
  | .other, _ | _, .other => false
  | .pure, _ | _, .pure => true
  | .fn, .fn | .fn, .rd | .rd, .fn | .fn, .shp | .shp, .fn => true
  | .fn, _ | _, .fn => b
  | .rd, .rd | .rd, .shp | .shp, .rd | .shp, .shp => true
  | .rd, .alc | .alc, .rd | .shp, .alc | .alc, .shp | .shp, .st | .st, .shp => true
  | _, _ => false

def callOf (T : Nat → TV) : Op → Option (FuncId × List TV)
  | .call c => match c.callee with
    | .value f => match ev T f with
      | .fn (.func g) l1 l2 => some (g, l1 ++ c.args.toList.map (ev T) ++ l2)
      | _ => none
    | _ => none
  | _ => none

inductive Exec (P : Program) (b : Bool) (T : Nat → TV) (S : Store) (op : Op) : TV → Store → Prop where
  | prim (v : TV) (S' : Store) (h : evalPrim P T S op = some (v, S')) : Exec P b T S op v S'
  | call (g : FuncId) (avs : List TV) (r : TV) (h : callOf T op = some (g, avs)) (hg : isFunc P g = true) (hc : CCall P g avs r) : Exec P b T S op r S
  | callS (g : FuncId) (avs : List TV) (r : TV) (hb : b = false) (h : callOf T op = some (g, avs)) (hg : isFunc P g = true) (hc : ACall P g avs S fun r' S' => r' = r ∧ S' = S) : Exec P b T S op r S

def wantedA (ops : Array Oper) (T : Nat → TV) (o : Oper) : Option Bool := match o.guard with
  | none => some true
  | some (j, want) => match guardVal ops T j with
    | some b => some (b == some want)
    | none => none

abbrev St := (Nat → TV) × Store

inductive StepD (P : Program) (b : Bool) (ops : Array Oper) (o : Oper) (s : St) : St → Prop where
  | run (v : TV) (S' : Store) (hw : wantedA ops s.1 o = some true) (h : Exec P b s.1 s.2 o.op v S') : StepD P b ops o s (put s.1 o.dst v, S')
  | skip (hw : wantedA ops s.1 o = some false) : StepD P b ops o s (put s.1 o.dst .und, s.2)

def RunD (P : Program) (b : Bool) (ops : Array Oper) : List Nat → St → St → Prop
  | [], s, s' => s = s'
  | i :: l, s, s' => ∃ o s1, ops[i]? = some o ∧ StepD P b ops o s s1 ∧ RunD P b ops l s1 s'

section
variable {P : Program} {b : Bool} {N : Nat} {F : Nat → Prop} {φ : Env} {T T' : Nat → TV} {S S' : Store} {a : Act} {w : World} {M : Nat → Prop} {ops : Array Oper}

/-! what an operation looks at -/
theorem ev_put {dst : Option Tmp} {v : TV} {x : Operand} (h : ∀ d, dst = some d → x ≠ .tmp d) : ev (put T dst v) x = ev T x := by
  cases dst with
  | none => rfl
  | some d =>
    cases x with
    | tmp t =>
      have hne : t ≠ d := fun e => h d rfl (e ▸ rfl)
      simp [ev, put, upd, hne]
    | _ => rfl

theorem evalPrim_congr (op : Op) (h : ∀ x ∈ op.operands, ev T x = ev T' x) : evalPrim P T S op = evalPrim P T' S op := by
  have hp : ∀ ps : Array (Nat × Operand), (∀ p ∈ ps.toList, ev T p.2 = ev T' p.2) → evParts T ps = evParts T' ps := fun ps hp => List.map_congr_left fun p hm => by simp [hp p hm]
  have hm : ∀ xs : Array Operand, (∀ x ∈ xs, ev T x = ev T' x) → xs.toList.map (ev T) = xs.toList.map (ev T') := fun xs hx => List.map_congr_left fun x hm => hx x (by simpa using hm)
  cases op <;> simp only [Op.operands] at h <;> simp only [evalPrim]
  case build t ps => rw [hp ps fun p hp => h p.2 (by simp; exact ⟨p.1, by simpa using hp⟩)]
  case buildSlice t n ps => rw [hp ps fun p hp => h p.2 (by simp; exact ⟨p.1, by simpa using hp⟩)]
  case makeFunc fn l1 l2 => rw [hm l1 fun x hx => h x (by simp [hx]), hm l2 fun x hx => h x (by simp [hx])]
  case slice t x lo hi mx => cases lo <;> cases hi <;> cases mx <;> simp_all
  case call c =>
    have ha : c.args.toList.map (ev T) = c.args.toList.map (ev T') := hm c.args fun x hx => h x (by simp [Call.operands, hx])
    split
    · split
      · rename_i x t hx ht
        rw [h x (by simp [Call.operands]; right; have : x ∈ c.args.toList := by rw [hx]; simp
                    simpa using this)]
      · rfl
    · rw [ha]
    · rw [ha]
    · split
      · rename_i s x t xt hx ht
        have m1 : s ∈ c.args := by have : s ∈ c.args.toList := by rw [hx]; simp
                                   simpa using this
        have m2 : x ∈ c.args := by have : x ∈ c.args.toList := by rw [hx]; simp
                                   simpa using this
        rw [h s (by simp [Call.operands, m1]), h x (by simp [Call.operands, m2])]
      · rfl
    · split
      · rename_i s x t xt hx ht
        have m1 : s ∈ c.args := by have : s ∈ c.args.toList := by rw [hx]; simp
                                   simpa using this
        have m2 : x ∈ c.args := by have : x ∈ c.args.toList := by rw [hx]; simp
                                   simpa using this
        rw [h s (by simp [Call.operands, m1]), h x (by simp [Call.operands, m2])]
      · rfl
    · rfl
  all_goals (first | rfl | (simp_all; done))

theorem callOf_congr (op : Op) (h : ∀ x ∈ op.operands, ev T x = ev T' x) : callOf T op = callOf T' op := by
  cases op <;> try rfl
  case call c =>
    simp only [callOf]
    cases hc : c.callee with
    | value f =>
      have hf : ev T f = ev T' f := h f (by simp [Op.operands, Call.operands, hc])
      have ha : c.args.toList.map (ev T) = c.args.toList.map (ev T') := List.map_congr_left fun x hm => h x (by simp [Op.operands, Call.operands]; right; simpa using hm)
      simp only [hf, ha]
    | _ => rfl

theorem exec_congr {op : Op} {v : TV} (h : ∀ x ∈ op.operands, ev T x = ev T' x) (he : Exec P b T S op v S') : Exec P b T' S op v S' := by
  cases he with
  | prim v S' hp => exact .prim _ _ (by rw [← evalPrim_congr op h]; exact hp)
  | call g avs r hc hg hcc => exact .call g avs _ (by rw [← callOf_congr op h]; exact hc) hg hcc
  | callS g avs r hb hc hg hcc => exact .callS g avs _ hb (by rw [← callOf_congr op h]; exact hc) hg hcc

theorem looks_of {o : Oper} {dst : Option Tmp} {v : TV} (h : ∀ d, dst = some d → d ∉ o.looksAt ops) : (∀ x ∈ o.op.operands, ev (put T dst v) x = ev T x) ∧ wantedA ops (put T dst v) o = wantedA ops T o := by
  refine ⟨fun x hx => ev_put fun d hd hxd => h d hd ?_, ?_⟩
  · subst hxd
    exact List.mem_append_left _ (List.mem_filterMap.2 ⟨.tmp d, by simpa using hx, rfl⟩)
  · unfold wantedA
    cases hg : o.guard with
    | none => rfl
    | some p =>
      obtain ⟨j, want⟩ := p
      have : guardVal ops (put T dst v) j = guardVal ops T j := by
        unfold guardVal
        cases ht : (ops[j]?).bind (·.dst) with
        | none => rfl
        | some t =>
          have e : put T dst v t = T t := by
            have := ev_put (T := T) (dst := dst) (v := v) (x := .tmp t) fun d hd hxd => h d hd (by
              injection hxd with hxd
              subst hxd
              refine List.mem_append_right _ ?_
              simp [hg, ht])
            exact this
          simp only [e]
      simp only [this]

theorem put_comm {x y : Option Tmp} (v u : TV) (h : ∀ d, x = some d → y ≠ some d) : put (put T x v) y u = put (put T y u) x v := by
  cases x with
  | none => rfl
  | some d =>
    cases y with
    | none => rfl
    | some e =>
      have hne : d ≠ e := fun he => h d rfl (he ▸ rfl)
      funext t
      simp only [put, upd]
      by_cases h1 : t = e <;> by_cases h2 : t = d <;> simp_all

/-! what an operation does to the store -/
theorem pure_S {op : Op} {v : TV} (hc : clsOf P op = .pure) (h : evalPrim P T S op = some (v, S')) : S' = S ∧ ∀ S2, evalPrim P T S2 op = some (v, S2) := by
  cases op <;> simp only [clsOf] at hc <;> first
    | (simp at hc; done)
    | (simp only [evalPrim, Option.map_eq_some_iff, Prod.mk.injEq] at h
       obtain ⟨u, hu, rfl, rfl⟩ := h
       refine ⟨rfl, fun S2 => ?_⟩
       simp only [evalPrim, hu, Option.map_some])
    | skip
  case convert s d x =>
    simp only [evalPrim] at h ⊢
    split at h
    · rename_i u hu
      simp only [Option.some.injEq, Prod.mk.injEq] at h
      obtain ⟨rfl, rfl⟩ := h
      exact ⟨rfl, fun S2 => by simp only [hu]⟩
    · exfalso
      simp only [Option.map_eq_some_iff] at h
      obtain ⟨u, hu, _⟩ := h
      unfold tvStr at hu
      split at hu
      · rename_i e h1 h2
        simp [h1] at hc
      · cases hu
  case move x => simp [evalPrim] at h ⊢; exact ⟨h.2.symm, fun _ => h.1⟩
  case assign x => simp [evalPrim] at h ⊢; exact ⟨h.2.symm, fun _ => h.1⟩
  case pick c x y =>
    simp only [evalPrim] at h ⊢
    split at h
    · simp at h ⊢; exact ⟨h.2.symm, fun _ => h.1⟩
    · simp at h
  case makeFunc f l1 l2 => simp [evalPrim] at h ⊢; exact ⟨h.2.symm, fun _ => h.1⟩
  case makeInterface t x =>
    simp only [evalPrim] at h ⊢
    split at h
    · rename_i hcon
      simp only [if_pos hcon]
      split at h <;> simp at h ⊢ <;> exact ⟨h.2.symm, fun _ => h.1⟩
    · simp at h
  case slice t x lo hi mx => cases mx <;> simp at hc
  case call c =>
    simp only [evalPrim] at h ⊢
    split at h
    · rename_i hcal
      rw [hcal] at hc
      simp only at hc
      split at h
      · rename_i x t hx ht
        simp only [ht] at hc
        simp only [Option.map_eq_some_iff, Prod.mk.injEq] at h
        obtain ⟨u, hu, rfl, rfl⟩ := h
        refine ⟨rfl, fun S2 => ?_⟩
        have : tvLen P S2 t (ev T x) = some u := by
          unfold tvLen at hu ⊢
          split at hu <;> simp_all
        simp [this]
      · simp at h
    · simp only [Option.map_eq_some_iff, Prod.mk.injEq] at h
      obtain ⟨u, hu, rfl, rfl⟩ := h
      exact ⟨rfl, fun S2 => by simp [hu]⟩
    · simp only [Option.map_eq_some_iff, Prod.mk.injEq] at h
      obtain ⟨u, hu, rfl, rfl⟩ := h
      exact ⟨rfl, fun S2 => by simp [hu]⟩
    · rename_i hcal
      rw [hcal] at hc
      simp at hc
    · rename_i hcal
      rw [hcal] at hc
      simp at hc
    · simp at h

theorem read_S {op : Op} {v : TV} (hc : clsOf P op = .rd ∨ clsOf P op = .shp) (h : evalPrim P T S op = some (v, S')) : S' = S := by
  cases op <;> simp only [clsOf] at hc <;> first
    | (simp at hc; done)
    | (simp only [evalPrim, Option.map_eq_some_iff, Prod.mk.injEq] at h
       obtain ⟨u, hu, rfl, rfl⟩ := h
       rfl)
    | skip
  case slice t x lo hi mx =>
    cases mx with
    | none =>
      simp only [evalPrim, Option.map_eq_some_iff, Prod.mk.injEq] at h
      obtain ⟨u, hu, rfl, rfl⟩ := h
      rfl
    | some m => simp at hc
  case convert s d x => exfalso; revert hc; split <;> simp
  case call c => exfalso; revert hc; split <;> (try split) <;> (try split) <;> simp

/-- The store holds of a reference what another holds: the element's kind, its length (and its cells). -/
def shape3 (q : TypeId × Nat × List TV) : TypeId × Nat × Nat := (q.1, q.2.1, q.2.2.length)

theorem shp_of {op : Op} {v : TV} {S2 : Store} (hc : clsOf P op = .shp) (h : evalPrim P T S op = some (v, S'))
    (hs : ∀ x ∈ op.operands, ∀ id g, (∃ off len, ev T x = .view id g off len) ∨ (∃ off, ev T x = .ptr id g off) → ∀ q, S.at id g = some q → ∃ q2, S2.at id g = some q2 ∧ shape3 q2 = shape3 q) : evalPrim P T S2 op = some (v, S2) := by
  cases op <;> simp only [clsOf] at hc <;> first
    | (simp at hc; done)
    | skip
  case indexAddr t x i =>
    simp only [evalPrim, Option.map_eq_some_iff, Prod.mk.injEq] at h ⊢
    obtain ⟨u, hu, rfl, rfl⟩ := h
    refine ⟨u, ?_, by trivial⟩
    unfold tvIndexAddr at hu ⊢
    split at hu
    · split at hu
      · split at hu
        · exact hu
        · rename_i id g off len hx
          have := hs x (by simp [Op.operands]) id g (.inl ⟨off, len, hx⟩)
          cases h1 : S.at id g with
          | none => simp [h1] at hu
          | some q =>
            simp only [h1] at hu
            obtain ⟨q2, hq2, _⟩ := this q h1
            simp only [hq2]
            exact hu
        · simp at hu
      · simp at hu
    · exact hu
    · simp at hu
  case slice t x lo hi mx =>
    cases mx with
    | some m => simp at hc
    | none =>
      simp only [evalPrim, Option.map_eq_some_iff, Prod.mk.injEq] at h ⊢
      obtain ⟨u, hu, rfl, rfl⟩ := h
      refine ⟨u, ?_, by trivial⟩
      unfold tvSlice at hu ⊢
      split at hu
      · exact hu
      · split at hu
        · split at hu
          · exact hu
          · exact hu
          · rename_i id g off len hx
            have := hs x (by simp [Op.operands]) id g (.inl ⟨off, len, hx⟩)
            cases h1 : S.at id g with
            | none => simp [h1] at hu
            | some q =>
              obtain ⟨q2, hq2, he⟩ := this q h1
              simp only [h1] at hu
              simp only [hq2]
              obtain ⟨et, esz, cs⟩ := q
              obtain ⟨et2, esz2, cs2⟩ := q2
              simp [shape3] at he
              obtain ⟨rfl, rfl, e3⟩ := he
              revert hu
              cases boundOf 0 (Option.map (ev T) lo) <;> cases boundOf len (Option.map (ev T) hi) <;> exact fun z => z
          · simp at hu
        · simp at hu
      · split at hu
        · split at hu
          · rename_i id g off hx
            have := hs x (by simp [Op.operands]) id g (.inr ⟨off, hx⟩)
            cases h1 : S.at id g with
            | none => simp [h1] at hu
            | some q =>
              obtain ⟨q2, hq2, he⟩ := this q h1
              simp only [h1] at hu
              simp only [hq2]
              obtain ⟨et, esz, cs⟩ := q
              obtain ⟨et2, esz2, cs2⟩ := q2
              simp [shape3] at he
              obtain ⟨rfl, rfl, e3⟩ := he
              revert hu
              generalize boundOf 0 (Option.map (ev T) lo) = q1
              generalize boundOf _ (Option.map (ev T) hi) = q2
              cases q1 <;> cases q2 <;> simp only [e3] <;> exact fun z => z
          · exact hu
          · simp at hu
        · simp at hu
      · simp at hu
  case convert s d x => exfalso; revert hc; split <;> simp
  case call c => exfalso; revert hc; split <;> (try split) <;> (try split) <;> simp

theorem rd_of {op : Op} {v : TV} {S2 : Store} (hc : clsOf P op = .rd) (h : evalPrim P T S op = some (v, S'))
    (hs : ∀ x ∈ op.operands, ∀ id g, (∃ off len, ev T x = .view id g off len) ∨ (∃ off, ev T x = .ptr id g off) → ∀ q, S.at id g = some q → S2.at id g = some q) : evalPrim P T S2 op = some (v, S2) := by
  cases op <;> simp only [clsOf] at hc <;> first
    | (simp at hc; done)
    | skip
  case load t x =>
    simp only [evalPrim, Option.map_eq_some_iff, Prod.mk.injEq] at h ⊢
    obtain ⟨u, hu, rfl, rfl⟩ := h
    refine ⟨u, ?_, by trivial⟩
    unfold tvLoad at hu ⊢
    split at hu
    · split at hu
      · rename_i id g off hx
        cases h1 : S.at id g with
        | none => simp [h1] at hu
        | some q =>
          rw [hs x (by simp [Op.operands]) id g (.inr ⟨off, hx⟩) q h1]
          rw [h1] at hu
          exact hu
      · exact hu
      · simp at hu
    · simp at hu
  case slice t x lo hi mx => cases mx <;> simp at hc
  case convert s d x => exfalso; revert hc; split <;> simp
  case call c => exfalso; revert hc; split <;> (try split) <;> (try split) <;> simp

theorem alc_S {op : Op} {v : TV} (hc : clsOf P op = .alc) (h : evalPrim P T S op = some (v, S')) : ∃ o, S' = S.push o := by
  cases op <;> simp only [clsOf] at hc <;> first
    | (simp at hc; done)
    | skip
  case alloc e =>
    simp only [evalPrim, tvAlloc] at h
    split at h
    · simp at h; exact ⟨_, h.2.symm⟩
    · simp at h
  case box e x =>
    simp only [evalPrim, tvBox] at h
    split at h
    · simp at h; exact ⟨_, h.2.symm⟩
    · simp at h
  case buildSlice t n ps =>
    simp only [evalPrim, tvBuildSlice] at h
    repeat' split at h
    all_goals first
      | (simp at h; done)
      | (simp at h; exact ⟨_, h.2.symm⟩)
  case makeSlice t l c =>
    simp only [evalPrim, tvMake] at h
    repeat' split at h
    all_goals first
      | (simp at h; done)
      | (simp at h; exact ⟨_, h.2.symm⟩)
  case slice t x lo hi mx => cases mx <;> simp at hc
  case convert s d x => exfalso; revert hc; split <;> simp
  case call c => exfalso; revert hc; split <;> (try split) <;> (try split) <;> simp

theorem st_S {op : Op} {v : TV} (hc : clsOf P op = .st) (h : evalPrim P T S op = some (v, S')) : S'.next = S.next ∧ (∀ id, S.get id = none → S'.get id = none) ∧ ∀ id g, (S'.at id g).map shape3 = (S.at id g).map shape3 := by
  cases op <;> simp only [clsOf] at hc <;> first
    | (simp at hc; done)
    | skip
  case store t x y =>
    simp only [evalPrim, Option.map_eq_some_iff, Prod.mk.injEq] at h
    obtain ⟨u, hu, _, rfl⟩ := h
    unfold tvStore at hu
    split at hu
    · split at hu
      · rename_i id0 g0 off hx
        split at hu
        · rename_i et esz cs hat
          split at hu
          · rename_i hcnd
            simp at hu
            subst hu
            have hg := at_some hat
            refine ⟨rfl, fun id hn => ?_, fun id g => ?_⟩
            · rw [get_set, if_neg, hn]
              intro e
              subst e
              rw [hg] at hn
              simp at hn
            · by_cases e : id = id0
              · subst e
                simp only [Store.at, get_set, if_pos, hg]
                split
                · simp [shape3, splice_len hcnd.2.1]
                · rfl
              · simp only [Store.at, get_set, if_neg e]
          · simp at hu
        · simp at hu
      · simp at hu
    · simp at hu
  case slice t x lo hi mx => cases mx <;> simp at hc
  case convert s d x => exfalso; revert hc; split <;> simp
  case call c => exfalso; revert hc; split <;> (try split) <;> (try split) <;> simp

/-! two operations in either order -/
def Fresh (S : Store) : Prop := ∀ id, S.next ≤ id → S.get id = none
def LiveX (S : Store) (T : Nat → TV) (op : Op) : Prop := ∀ x ∈ op.operands, ∀ id g, (∃ off len, ev T x = .view id g off len) ∨ (∃ off, ev T x = .ptr id g off) → id < S.next

theorem at_lt (hf : Fresh S) {id g : Nat} {q : TypeId × Nat × List TV} (h : S.at id g = some q) : id < S.next := by
  rcases Nat.lt_or_ge id S.next with hl | hl
  · exact hl
  · have := at_some (et := q.1) (esz := q.2.1) (cs := q.2.2) h
    rw [hf id hl] at this
    simp at this

theorem at_push {o : AObj} {id g : Nat} (h : id < S.next) : (S.push o).at id g = S.at id g := by
  simp only [Store.at, get_push, if_neg (Nat.ne_of_lt h)]

theorem fn_prim {op : Op} (hc : clsOf P op = .fn) : evalPrim P T S op = none := by
  cases op <;> simp only [clsOf] at hc <;> first
    | (simp at hc; done)
    | skip
  case convert s d x => exfalso; revert hc; split <;> simp
  case slice t x lo hi mx => cases mx <;> simp at hc
  case call c =>
    simp only [evalPrim]
    revert hc
    cases c.callee with
    | value f => intro _; rfl
    | builtin bi => cases bi <;> simp <;> (try split) <;> (try split) <;> simp
    | _ => simp

theorem exec_keeps {op : Op} {v : TV} (hc : clsOf P op ≠ .other) (hf : Fresh S) (h : Exec P b T S op v S') : S.next ≤ S'.next ∧ Fresh S' := by
  cases h with
  | call => exact ⟨Nat.le_refl _, hf⟩
  | callS => exact ⟨Nat.le_refl _, hf⟩
  | prim v S' h =>
    cases hcl : clsOf P op with
    | pure => rw [(pure_S hcl h).1]; exact ⟨Nat.le_refl _, hf⟩
    | rd => rw [read_S (.inl hcl) h]; exact ⟨Nat.le_refl _, hf⟩
    | shp => rw [read_S (.inr hcl) h]; exact ⟨Nat.le_refl _, hf⟩
    | alc =>
      obtain ⟨o, rfl⟩ := alc_S hcl h
      refine ⟨by rw [next_push]; omega, fun id hi => ?_⟩
      rw [next_push] at hi
      rw [get_push, if_neg (by omega)]
      exact hf id (by omega)
    | st =>
      obtain ⟨h1, h2, _⟩ := st_S hcl h
      refine ⟨by omega, fun id hi => h2 id (hf id (by omega))⟩
    | fn => exact absurd h (by rw [fn_prim hcl]; simp)
    | other => exact absurd hcl hc

theorem callOf_fn {op : Op} {q : FuncId × List TV} (h : callOf T op = some q) : clsOf P op = .fn := by
  cases op <;> simp only [callOf] at h <;> first
    | (simp at h; done)
    | skip
  case call c =>
    split at h
    · rename_i f hc
      simp only [clsOf, hc]
    · simp at h

theorem exec_swap {p i : Op} {v u : TV} {S1 S2 : Store} (hcl : clsOk b (clsOf P p) (clsOf P i) = true) (hf : Fresh S) (hl : LiveX S T i) (hp : Exec P b T S p v S1) (hi : Exec P b T S1 i u S2) :
    ∃ S3, Exec P b T S i u S3 ∧ Exec P b T S3 p v S2 := by
  by_cases h1 : clsOf P p = .pure
  · have hS : S1 = S ∧ ∀ S3, Exec P b T S3 p v S3 := by
      cases hp with
      | prim _ _ h => exact ⟨(pure_S h1 h).1, fun S3 => .prim _ _ ((pure_S h1 h).2 S3)⟩
      | call g avs _ h hg hc => rw [callOf_fn h] at h1; simp at h1
      | callS g avs _ hb h hg hc => rw [callOf_fn h] at h1; simp at h1
    obtain ⟨rfl, hS⟩ := hS
    exact ⟨S2, hi, hS S2⟩
  by_cases h2 : clsOf P i = .pure
  · have hS : S2 = S1 ∧ ∀ S3, Exec P b T S3 i u S3 := by
      cases hi with
      | prim _ _ h => exact ⟨(pure_S h2 h).1, fun S3 => .prim _ _ ((pure_S h2 h).2 S3)⟩
      | call g avs _ h hg hc => rw [callOf_fn h] at h2; simp at h2
      | callS g avs _ hb h hg hc => rw [callOf_fn h] at h2; simp at h2
    obtain ⟨rfl, hS⟩ := hS
    exact ⟨S, hS S, hp⟩
  have same : ∀ {o : Op} {A B : Store} {x : TV}, clsOf P o = .rd ∨ clsOf P o = .shp ∨ clsOf P o = .fn → Exec P b T A o x B → B = A := by
    intro o A B x ho h
    cases h with
    | prim _ _ h =>
      rcases ho with ho | ho | ho
      · exact read_S (.inl ho) h
      · exact read_S (.inr ho) h
      · rw [fn_prim ho] at h; simp at h
    | call => rfl
    | callS => rfl
  by_cases h3 : clsOf P p = .fn
  · cases hp with
    | prim _ _ h => rw [fn_prim h3] at h; simp at h
    | call g avs _ h hg hc => exact ⟨S2, hi, .call g avs _ h hg hc⟩
    | callS g avs _ hb h hg hc =>
      have hcl2 : clsOf P i = .rd ∨ clsOf P i = .shp ∨ clsOf P i = .fn := by
        rw [h3, hb] at hcl
        cases c2 : clsOf P i <;> simp [c2, clsOk] at hcl h2 ⊢
      have e := same hcl2 hi
      subst e
      exact ⟨_, hi, .callS g avs _ hb h hg hc⟩
  by_cases h4 : clsOf P i = .fn
  · cases hi with
    | prim _ _ h => rw [fn_prim h4] at h; simp at h
    | call g avs _ h hg hc => exact ⟨S, .call g avs _ h hg hc, hp⟩
    | callS g avs _ hb h hg hc =>
      have hcl2 : clsOf P p = .rd ∨ clsOf P p = .shp ∨ clsOf P p = .fn := by
        rw [h4, hb] at hcl
        cases c2 : clsOf P p <;> simp [c2, clsOk] at hcl h1 ⊢
      have e := same hcl2 hp
      subst e
      exact ⟨_, .callS g avs _ hb h hg hc, hp⟩
  have hp' : evalPrim P T S p = some (v, S1) := by
    cases hp with
    | prim _ _ h => exact h
    | call g avs _ h hg hc => exact absurd (callOf_fn h) h3
    | callS g avs _ hb h hg hc => exact absurd (callOf_fn h) h3
  have hi' : evalPrim P T S1 i = some (u, S2) := by
    cases hi with
    | prim _ _ h => exact h
    | call g avs _ h hg hc => exact absurd (callOf_fn h) h4
    | callS g avs _ hb h hg hc => exact absurd (callOf_fn h) h4
  have reads : ∀ {o : Op}, clsOf P o = .rd ∨ clsOf P o = .shp → ∀ {v : TV} {A B : Store} {S' : Store}, evalPrim P T A o = some (v, S') →
      (∀ x ∈ o.operands, ∀ id g, (∃ off len, ev T x = .view id g off len) ∨ (∃ off, ev T x = .ptr id g off) → ∀ q, A.at id g = some q → B.at id g = some q) → evalPrim P T B o = some (v, B) := by
    intro o ho v A B S' h hab
    rcases ho with ho | ho
    · exact rd_of ho h hab
    · exact shp_of ho h fun x hx id g hr q hq => ⟨q, hab x hx id g hr q hq, rfl⟩
  cases c1 : clsOf P p <;> cases c2 : clsOf P i <;> simp [c1, c2, clsOk] at hcl h1 h2 h3 h4
  case rd.rd | rd.shp | shp.rd | shp.shp =>
    have e1 := read_S (by simp [c1]) hp'
    subst e1
    have e2 := read_S (by simp [c2]) hi'
    subst e2
    exact ⟨_, .prim _ _ hi', .prim _ _ hp'⟩
  case rd.alc | shp.alc =>
    have e1 := read_S (by simp [c1]) hp'
    subst e1
    obtain ⟨o, rfl⟩ := alc_S c2 hi'
    refine ⟨_, .prim _ _ hi', .prim _ _ (reads (by simp [c1]) hp' fun x hx id g hr q hq => ?_)⟩
    rw [at_push (at_lt hf hq)]
    exact hq
  case alc.rd | alc.shp =>
    obtain ⟨o, rfl⟩ := alc_S c1 hp'
    have e2 := read_S (by simp [c2]) hi'
    subst e2
    refine ⟨S, .prim _ _ (reads (by simp [c2]) hi' fun x hx id g hr q hq => ?_), .prim _ _ hp'⟩
    rwa [at_push (hl x hx id g hr)] at hq
  case shp.st =>
    have e1 := read_S (by simp [c1]) hp'
    subst e1
    obtain ⟨_, _, hs⟩ := st_S c2 hi'
    refine ⟨_, .prim _ _ hi', .prim _ _ (shp_of c1 hp' fun x hx id g hr q hq => ?_)⟩
    have := hs id g
    rw [hq] at this
    simpa [Option.map_eq_some_iff] using this
  case st.shp =>
    have e2 := read_S (by simp [c2]) hi'
    subst e2
    obtain ⟨_, _, hs⟩ := st_S c1 hp'
    refine ⟨S, .prim _ _ (shp_of c2 hi' fun x hx id g hr q hq => ?_), .prim _ _ hp'⟩
    have := hs id g
    rw [hq] at this
    cases h9 : S.at id g with
    | none => simp [h9] at this
    | some q2 => simp [h9] at this; exact ⟨q2, rfl, this.symm⟩

theorem step_swap {p i : Oper} {s s1 s2 : St} (hap : p.apart ops i = true) (hcl : clsOk b (clsOf P p.op) (clsOf P i.op) = true) (hf : Fresh s.2) (hl : LiveX s.2 s.1 i.op)
    (hp : StepD P b ops p s s1) (hi : StepD P b ops i s1 s2) : ∃ s3, StepD P b ops i s s3 ∧ StepD P b ops p s3 s2 := by
  obtain ⟨a1, a2, a3⟩ := Oper.apart_spec hap
  -- what the step of p leaves to i
  have key : ∃ v, s1.1 = put s.1 p.dst v := by cases hp <;> exact ⟨_, rfl⟩
  obtain ⟨v, hv⟩ := key
  obtain ⟨l1, l2⟩ := looks_of (T := s.1) (ops := ops) (v := v) a1
  have cm : ∀ u, put s1.1 i.dst u = put (put s.1 i.dst u) p.dst v := fun u => by rw [hv]; exact put_comm _ _ a2
  have pv : ∀ u, (∀ x ∈ p.op.operands, ev (put s.1 i.dst u) x = ev s.1 x) ∧ wantedA ops (put s.1 i.dst u) p = wantedA ops s.1 p := fun u => looks_of (T := s.1) (ops := ops) (v := u) a3
  cases hi with
  | skip hwi =>
    rw [hv, l2] at hwi
    rw [cm]
    cases hp with
    | skip hwp =>
      refine ⟨_, .skip hwi, ?_⟩
      have e : put (put s.1 i.dst .und) p.dst v = put (put s.1 i.dst .und) p.dst .und := by rw [← put_comm _ _ a2, ← put_comm _ _ a2]; exact congrArg (put · i.dst .und) hv.symm
      rw [e]
      exact .skip (by rw [(pv _).2]; exact hwp)
    | run v' S' hwp hep =>
      refine ⟨_, .skip hwi, ?_⟩
      have e : put (put s.1 i.dst .und) p.dst v = put (put s.1 i.dst .und) p.dst v' := by rw [← put_comm _ _ a2, ← put_comm _ _ a2]; exact congrArg (put · i.dst .und) hv.symm
      rw [e]
      exact .run _ _ (by rw [(pv _).2]; exact hwp) (exec_congr (fun x hx => ((pv _).1 x hx).symm) hep)
  | run u S2 hwi hei =>
    rw [hv, l2] at hwi
    have hei' : Exec P b s.1 s1.2 i.op u S2 := exec_congr (fun x hx => by rw [hv]; exact l1 x hx) hei
    rw [cm]
    cases hp with
    | skip hwp =>
      refine ⟨_, .run _ _ hwi hei', ?_⟩
      have e : put (put s.1 i.dst u) p.dst v = put (put s.1 i.dst u) p.dst .und := by rw [← put_comm _ _ a2, ← put_comm _ _ a2]; exact congrArg (put · i.dst u) hv.symm
      rw [e]
      exact .skip (by rw [(pv _).2]; exact hwp)
    | run v' S' hwp hep =>
      obtain ⟨S3, h1, h2⟩ := exec_swap hcl hf hl hep hei'
      refine ⟨_, .run _ _ hwi h1, ?_⟩
      have e : put (put s.1 i.dst u) p.dst v = put (put s.1 i.dst u) p.dst v' := by rw [← put_comm _ _ a2, ← put_comm _ _ a2]; exact congrArg (put · i.dst u) hv.symm
      rw [e]
      exact .run _ _ (by rw [(pv _).2]; exact hwp) (exec_congr (fun x hx => ((pv _).1 x hx).symm) h2)

/-! the table of a drawing region -/
def pairOk (P : Program) (b : Bool) (ops : Array Oper) (p i : Nat) : Bool := match ops[p]?, ops[i]? with
  | some x, some y => x.apart ops y && clsOk b (clsOf P x.op) (clsOf P y.op)
  | _, _ => false

def maskOf (ops : Array Oper) : List Nat := ops.toList.foldl (fun M o => M ++ [o.after.foldl (fun s e => if Region.binds .any e then s ||| 2 ^ e.on ||| M.getD e.on 0 else s) 0]) []

def hasBit (M : List Nat) (i p : Nat) : Bool := (M.getD i 0).testBit p

def drawAt (P : Program) (b : Bool) (ops : Array Oper) (M : List Nat) (i p : Nat) : Bool :=
  bif hasBit M i p then (match ops[i]? with
    | some o => o.after.any fun e => Region.binds .any e && decide (e.on < i) && (e.on == p || (decide (p < e.on) && hasBit M e.on p))
    | none => false)
  else pairOk P b ops p i

def backAt (ops : Array Oper) (i : Nat) : Bool := match ops[i]? with
  | some o => o.after.all fun e => !Region.binds .any e || decide (e.on < i)
  | none => false

def drawOkM (P : Program) (b : Bool) (ops : Array Oper) (M : List Nat) : Bool :=
  (List.range ops.size).all fun i => backAt ops i && (List.range i).all fun p => drawAt P b ops M i p

def drawOk (P : Program) (b : Bool) (ops : Array Oper) : Bool := drawOkM P b ops (maskOf ops)

theorem step_live {p i : Oper} {s s1 : St} (hap : p.apart ops i = true) (hc : clsOf P p.op ≠ .other) (hf : Fresh s.2) (hl : LiveX s.2 s.1 i.op) (hp : StepD P b ops p s s1) : Fresh s1.2 ∧ LiveX s1.2 s1.1 i.op := by
  obtain ⟨a1, a2, a3⟩ := Oper.apart_spec hap
  have key : ∃ v, s1.1 = put s.1 p.dst v := by cases hp <;> exact ⟨_, rfl⟩
  obtain ⟨v, hv⟩ := key
  obtain ⟨l1, _⟩ := looks_of (T := s.1) (ops := ops) (v := v) a1
  have hk : s.2.next ≤ s1.2.next ∧ Fresh s1.2 := by
    cases hp with
    | skip => exact ⟨Nat.le_refl _, hf⟩
    | run v S' hw h => exact exec_keeps hc hf h
  refine ⟨hk.2, fun x hx id g hr => ?_⟩
  rw [hv, l1 x hx] at hr
  exact Nat.lt_of_lt_of_le (hl x hx id g hr) hk.1

theorem pairOk_spec {p i : Nat} (h : pairOk P b ops p i = true) : ∃ x y, ops[p]? = some x ∧ ops[i]? = some y ∧ x.apart ops y = true ∧ clsOk b (clsOf P x.op) (clsOf P y.op) = true := by
  unfold pairOk at h
  split at h
  · rename_i x y h1 h2
    simp only [Bool.and_eq_true] at h
    exact ⟨x, y, h1, h2, h.1, h.2⟩
  · simp at h

theorem clsOk_left {x y : Cls} (h : clsOk b x y = true) : x ≠ .other := by
  intro e
  subst e
  cases y <;> simp [clsOk] at h

theorem run_first : ∀ (l1 : List Nat) (i : Nat) (l2 : List Nat) (oi : Oper) (s s' : St), ops[i]? = some oi → (∀ p ∈ l1, pairOk P b ops p i = true) → Fresh s.2 → LiveX s.2 s.1 oi.op →
    RunD P b ops (l1 ++ i :: l2) s s' → RunD P b ops (i :: (l1 ++ l2)) s s'
  | [], i, l2, oi, s, s', ho, hp, hf, hl, h => h
  | p :: l1, i, l2, oi, s, s', ho, hp, hf, hl, h => by
    obtain ⟨op, s1, h1, h2, h3⟩ := h
    obtain ⟨x, y, g1, g2, g3, g4⟩ := pairOk_spec (hp p (by simp))
    rw [h1] at g1
    rw [ho] at g2
    injection g1 with g1
    injection g2 with g2
    subst g1 g2
    obtain ⟨f1, f2⟩ := step_live g3 (clsOk_left g4) hf hl h2
    obtain ⟨oi', s2, k1, k2, k3⟩ := run_first l1 i l2 oi s1 s' ho (fun q hq => hp q (by simp [hq])) f1 f2 h3
    rw [ho] at k1
    injection k1 with k1
    subst k1
    obtain ⟨s3, q1, q2⟩ := step_swap g3 g4 hf hl h2 k2
    exact ⟨oi, s3, ho, q1, op, s2, h1, q2, k3⟩

theorem mask_listed {M : List Nat} {listed : Array Bool} (hM : ∀ i, i < ops.size → ∀ p, p < i → drawAt P b ops M i p = true) (hsz : listed.size = ops.size)
    (hcl : ∀ j, listed.getD j false = true → ∀ o, ops[j]? = some o → ∀ e ∈ o.after, Region.binds .any e = true → listed.getD e.on false = true) :
    ∀ (i : Nat) (o : Oper), ops[i]? = some o → (∀ e ∈ o.after, Region.binds .any e = true → listed.getD e.on false = true) → ∀ p, p < i → hasBit M i p = true → listed.getD p false = true := by
  intro i
  induction i using Nat.strongRecOn with
  | _ i ih =>
    intro o ho hall p hp hb
    have hi : i < ops.size := (Array.getElem?_eq_some_iff.1 ho).1
    have := hM i hi p hp
    unfold drawAt at this
    simp only [hb, cond_true, ho, Array.any_eq_true'] at this
    obtain ⟨e, he, h1⟩ := this
    simp only [Bool.and_eq_true, decide_eq_true_eq, Bool.or_eq_true, beq_iff_eq] at h1
    obtain ⟨⟨hbi, hlt⟩, h2⟩ := h1
    have hle := hall e he hbi
    rcases h2 with h2 | h2
    · rw [← h2]; exact hle
    · have hx : e.on < ops.size := by omega
      exact ih e.on hlt ops[e.on] (Array.getElem?_eq_getElem hx) (fun e' he' hb' => hcl e.on hle _ (Array.getElem?_eq_getElem hx) e' he' hb') p h2.1 h2.2

/-! the rule -/
theorem wanted_ok (hs : SRep N F φ T S a w) {o : Oper} {b : Bool} (h : wantedA ops T o = some b) : Region.wanted o (yielded ops a.tmps) = b := by
  unfold wantedA at h
  cases hg : o.guard with
  | none => simp [hg] at h; subst h; simp [Region.wanted, hg]
  | some p =>
    obtain ⟨j, want⟩ := p
    simp only [hg] at h
    cases hv : guardVal ops T j with
    | none => simp [hv] at h
    | some c =>
      simp [hv] at h
      subst h
      have := guardVal_ok hs hv
      simp [Region.wanted, hg, this]

theorem callOf_awp {o : Oper} {K : (Nat → TV) → Store → Prop} {g : FuncId} {avs : List TV} {r : TV} (hd : dstOk N o = true) (h : callOf T o.op = some (g, avs)) (hg : isFunc P g = true) (hc : CCall P g avs r) (hK : K (put T o.dst r) S) : awpOp P N o K T S := by
  cases ho : o.op with
  | call c =>
    rw [ho] at h
    simp only [callOf] at h
    split at h
    · rename_i f hcal
      split at h
      · rename_i g' l1 l2 hf
        simp at h
        obtain ⟨rfl, rfl⟩ := h
        exact awpOp_ccall hd ho hcal hf hg (by simpa using hc) hK
      · simp at h
    · simp at h
  | _ => rw [ho] at h; simp [callOf] at h

theorem callOf_awpA {o : Oper} {K : (Nat → TV) → Store → Prop} {g : FuncId} {avs : List TV} {R : TV → Store → Prop} (hd : dstOk N o = true) (h : callOf T o.op = some (g, avs)) (hg : isFunc P g = true) (hc : ACall P g avs S R)
    (hK : ∀ r S', R r S' → K (put T o.dst r) S') : awpOp P N o K T S := by
  cases ho : o.op with
  | call c =>
    rw [ho] at h
    simp only [callOf] at h
    split at h
    · rename_i f hcal
      split at h
      · rename_i g' l1 l2 hf
        simp at h
        obtain ⟨rfl, rfl⟩ := h
        exact awpOp_call hd ho hcal hf hg (by simpa using hc) hK
      · simp at h
    · simp at h
  | _ => rw [ho] at h; simp [callOf] at h

theorem step_ok {Q : Exit → Act → World → Prop} {i : Nat} {o : Oper} {s' : St} (ho : ops[i]? = some o) (hd : dstOk N o = true) (h : StepD P b ops o (T, S) s') (hs : SRep N F φ T S a w)
    {K : Act → World → Prop} (hK : ∀ φ' a' w', SRep N F φ' s'.1 s'.2 a' w' → Ext φ S w φ' s'.2 w' → K a' w') : wpOp P ops Q i K a w := by
  unfold wpOp
  simp only [ho]
  cases h with
  | skip hw =>
    rw [if_neg (by rw [wanted_ok hs hw]; simp)]
    exact hK φ _ w (hs.put (Ext.refl φ S w) hs.store (fun d e => by simpa [dstOk, e] using hd) und_rep) (Ext.refl φ S w)
  | run v S' hw he =>
    rw [if_pos (wanted_ok hs hw)]
    have key : awpOp P N o (fun T' S'' => T' = put T o.dst v ∧ S'' = S') T S := by
      cases he with
      | prim _ _ h => exact evalPrim_ok hd h ⟨rfl, rfl⟩
      | call g avs _ hc hg hcc => exact callOf_awp hd hc hg hcc ⟨rfl, rfl⟩
      | callS g avs _ hb hc hg hcc => exact callOf_awpA hd hc hg hcc fun r S' ⟨e1, e2⟩ => by subst e1 e2; exact ⟨rfl, rfl⟩
    exact .inl (upon_mono (fun a' w' ⟨φ', T', S'', ⟨e1, e2⟩, h2, h3⟩ => by subst e1 e2; exact hK φ' a' w' h2 h3) (fun _ _ _ h => h.elim) (key F φ a w hs))

def unlisted (n : Nat) (listed : Array Bool) : List Nat := (List.range n).filter fun i => !listed.getD i true

theorem ev_live (hs : SRep N F φ T S a w) (op : Op) : LiveX S T op := by
  intro x _ id g hr
  have h := ev_rep hs x
  have key : ∃ o, S.get id = some o := by
    rcases hr with ⟨off, len, e⟩ | ⟨off, e⟩ <;> rw [e] at h <;> generalize a.eval x = y at h <;> cases h <;> exact ⟨_, by assumption⟩
  obtain ⟨o, ho⟩ := key
  rcases Nat.lt_or_ge id S.next with hl | hl
  · exact hl
  · rw [hs.store.fresh id hl] at ho
    simp at ho

theorem unlisted_split {n i : Nat} {listed : Array Bool} (hsz : listed.size = n) (hi : i < n) (hl : listed.getD i true = false) :
    ∃ l1 l2, unlisted n listed = l1 ++ i :: l2 ∧ unlisted n (listed.setIfInBounds i true) = l1 ++ l2 ∧ ∀ p ∈ l1, p < i ∧ listed.getD p true = false := by
  have hr : List.range n = List.range' 0 i ++ i :: List.range' (i + 1) (n - (i + 1)) := by
    have h1 := List.range'_append_1 (s := 0) (m := i) (n := n - (i + 1) + 1)
    rw [List.range_eq_range', ← List.range'_succ]
    simp only [Nat.zero_add] at h1
    rw [h1]
    congr 1
    omega
  refine ⟨(List.range' 0 i).filter fun i => !listed.getD i true, (List.range' (i + 1) (n - (i + 1))).filter fun i => !listed.getD i true, ?_, ?_, ?_⟩
  · unfold unlisted
    rw [hr, List.filter_append, List.filter_cons_of_pos (by rw [hl]; rfl)]
  · unfold unlisted
    rw [hr, List.filter_append, List.filter_cons_of_neg (by simp [hsz, hi])]
    congr 1
    · apply List.filter_congr
      intro x hx
      simp at hx
      rw [getD_set_ne true (by omega)]
    · apply List.filter_congr
      intro x hx
      simp at hx
      rw [getD_set_ne true (by omega)]
  · intro p hp
    simp at hp
    exact ⟨by omega, by simpa using hp.2⟩

theorem wpAny_of {Q : Exit → Act → World → Prop} {M : List Nat} (hN : ops.all (dstOk N) = true) (hB : ∀ i o, ops[i]? = some o → ∀ e ∈ o.after, Region.binds .any e = true → e.on < i) (hM : ∀ i, i < ops.size → ∀ p, p < i → drawAt P b ops M i p = true) {s' : St} :
    ∀ (fuel : Nat) (listed : Array Bool), listed.size = ops.size → (unlisted ops.size listed).length ≤ fuel →
    (∀ j, listed.getD j false = true → ∀ o, ops[j]? = some o → ∀ e ∈ o.after, Region.binds .any e = true → listed.getD e.on false = true) →
    ∀ (φ : Env) (T : Nat → TV) (S : Store) (a : Act) (w : World), RunD P b ops (unlisted ops.size listed) (T, S) s' → SRep N F φ T S a w →
    (∀ φ' a' w', SRep N F φ' s'.1 s'.2 a' w' → Ext φ S w φ' s'.2 w' → Q .normal a' w') → wpAny P .any ops Q fuel listed a w := by
  intro fuel
  induction fuel with
  | zero =>
    intro listed hsz hlen hcl φ T S a w hrun hs hq
    have hnil : unlisted ops.size listed = [] := List.eq_nil_of_length_eq_zero (by omega)
    rw [hnil] at hrun
    simp only [RunD] at hrun
    subst hrun
    refine ⟨?_, hq φ a w hs (Ext.refl φ S w)⟩
    cases hr : Region.ready .any ops listed with
    | nil => rfl
    | cons i l =>
      have hi : i ∈ Region.ready .any ops listed := by rw [hr]; simp
      rw [mem_ready] at hi
      obtain ⟨h0, o, ho, _⟩ := hi
      have : i ∈ unlisted ops.size listed := by
        simp only [unlisted, List.mem_filter, List.mem_range]
        exact ⟨(Array.getElem?_eq_some_iff.1 ho).1, by rw [h0]; rfl⟩
      rw [hnil] at this
      simp at this
  | succ fuel ih =>
    intro listed hsz hlen hcl φ T S a w hrun hs hq
    refine ⟨fun hnil => ?_, fun i hi => ?_⟩
    · -- nothing is ready: then nothing is left, for the first that is left would be ready
      have hnone : unlisted ops.size listed = [] := by
        cases hu : unlisted ops.size listed with
        | nil => rfl
        | cons i l =>
          have hmem : i ∈ unlisted ops.size listed := by rw [hu]; simp
          simp only [unlisted, List.mem_filter, List.mem_range, Bool.not_eq_true'] at hmem
          have hpw : (unlisted ops.size listed).Pairwise (· < ·) := List.Pairwise.filter _ List.pairwise_lt_range
          rw [hu, List.pairwise_cons] at hpw
          have : i ∈ Region.ready .any ops listed := by
            refine mem_ready.2 ⟨hmem.2, ops[i], Array.getElem?_eq_getElem hmem.1, fun e he hb => ?_⟩
            have hlt := hB i _ (Array.getElem?_eq_getElem hmem.1) e he hb
            cases hg : listed.getD e.on true with
            | true =>
              have hx : e.on < listed.size := by omega
              simpa [Array.getD_eq_getD_getElem?, hx] using hg
            | false =>
              have : e.on ∈ unlisted ops.size listed := by
                simp only [unlisted, List.mem_filter, List.mem_range, Bool.not_eq_true']
                exact ⟨by omega, hg⟩
              rw [hu] at this
              rcases List.mem_cons.1 this with h | h
              · omega
              · have := hpw.1 _ h
                omega
          rw [hnil] at this
          simp at this
      rw [hnone] at hrun
      simp only [RunD] at hrun
      subst hrun
      exact hq φ a w hs (Ext.refl φ S w)
    · obtain ⟨h0, o, ho, hall⟩ := mem_ready.1 hi
      have hlt := (Array.getElem?_eq_some_iff.1 ho).1
      obtain ⟨l1, l2, e1, e2, hl1⟩ := unlisted_split hsz hlt h0
      rw [e1] at hrun
      have hpair : ∀ p ∈ l1, pairOk P b ops p i = true := by
        intro p hp
        obtain ⟨hpi, hpl⟩ := hl1 p hp
        have := hM i hlt p hpi
        unfold drawAt at this
        cases hb : hasBit M i p with
        | false => simpa [hb] using this
        | true =>
          have := mask_listed hM hsz hcl i o ho hall p hpi hb
          have hx : p < listed.size := by omega
          simp [Array.getD_eq_getD_getElem?, hx] at this hpl
          rw [this] at hpl
          simp at hpl
      obtain ⟨o', s1, g1, g2, g3⟩ := run_first l1 i l2 o (T, S) s' ho hpair hs.store.fresh (ev_live hs o.op) hrun
      rw [ho] at g1
      injection g1 with g1
      subst g1
      have hd : dstOk N o = true := by
        rw [Array.all_eq_true] at hN
        obtain ⟨hi, rfl⟩ := Array.getElem?_eq_some_iff.1 ho
        exact hN i hi
      refine step_ok ho hd g2 hs fun φ' a' w' hs' hx' => ?_
      refine ih (listed.setIfInBounds i true) (by simp [hsz]) ?_ ?_ φ' s1.1 s1.2 a' w' (by rw [e2]; exact g3) hs' fun φ2 a2 w2 hs2 hx2 => hq φ2 a2 w2 hs2 (hx'.trans hx2)
      · rw [e2]
        rw [e1] at hlen
        simp at hlen ⊢
        omega
      · intro j hj oj hoj e he hb
        by_cases hji : j = i
        · subst hji
          rw [ho] at hoj
          injection hoj with hoj
          subst hoj
          exact getD_set_true (hall e he hb)
        · rw [getD_set_ne false (Ne.symm hji)] at hj
          exact getD_set_true (hcl j hj oj hoj e he hb)

/-- One operation of a drawing region: no call but of a function whose answer is known whatever lies in the store. -/
def stepD (P : Program) (b : Bool) (o : Oper) (K : (Nat → TV) → Store → Prop) (T : Nat → TV) (S : Store) : Prop :=
  match evalPrim P T S o.op with
  | some (v, S') => K (put T o.dst v) S'
  | none => ∃ g avs r, callOf T o.op = some (g, avs) ∧ isFunc P g = true ∧ (CCall P g avs r ∨ (b = false ∧ ACall P g avs S fun r' S' => r' = r ∧ S' = S)) ∧ K (put T o.dst r) S

def opsD (P : Program) (b : Bool) (ops : Array Oper) : List Oper → ((Nat → TV) → Store → Prop) → (Nat → TV) → Store → Prop
  | [], K, T, S => K T S
  | o :: os, K, T, S => match o.guard with
    | none => stepD P b o (opsD P b ops os K) T S
    | some (j, want) => match guardVal ops T j with
      | some y => if y = some want then stepD P b o (opsD P b ops os K) T S else opsD P b ops os K (put T o.dst .und) S
      | none => False

theorem stepD_run {o : Oper} {K : (Nat → TV) → Store → Prop} (hw : wantedA ops T o = some true) (h : stepD P b o K T S) : ∃ s1 : St, StepD P b ops o (T, S) s1 ∧ K s1.1 s1.2 := by
  unfold stepD at h
  split at h
  · rename_i v S' he
    exact ⟨_, .run v S' hw (.prim _ _ he), h⟩
  · obtain ⟨g, avs, r, h1, h2, h3, h4⟩ := h
    rcases h3 with h3 | ⟨hb, h3⟩
    · exact ⟨_, .run r S hw (.call g avs r h1 h2 h3), h4⟩
    · exact ⟨_, .run r S hw (.callS g avs r hb h1 h2 h3), h4⟩

theorem opsD_run : ∀ (l : List Oper) (k : Nat), ops.toList.drop k = l → ∀ (K : (Nat → TV) → Store → Prop) (T : Nat → TV) (S : Store), opsD P b ops l K T S → ∃ s' : St, RunD P b ops (List.range' k l.length) (T, S) s' ∧ K s'.1 s'.2 := by
  intro l
  induction l with
  | nil => intro k hk K T S h; exact ⟨(T, S), rfl, h⟩
  | cons o os ih =>
    intro k hk K T S h
    have ho : ops[k]? = some o := by
      have := congrArg (·[0]?) hk
      simpa using this
    have hk' : ops.toList.drop (k + 1) = os := by
      have := congrArg List.tail hk
      simpa using this
    simp only [List.length_cons, List.range'_succ]
    have key : ∃ s1 : St, StepD P b ops o (T, S) s1 ∧ opsD P b ops os K s1.1 s1.2 := by
      simp only [opsD] at h
      split at h
      · rename_i hg
        exact stepD_run (by simp [wantedA, hg]) h
      · rename_i j want hg
        split at h
        · rename_i b hb
          split at h
          · rename_i he
            exact stepD_run (by simp [wantedA, hg, hb, he]) h
          · rename_i he
            exact ⟨_, .skip (by simp [wantedA, hg, hb, he]), h⟩
        · exact h.elim
    obtain ⟨s1, h1, h2⟩ := key
    obtain ⟨s', h3, h4⟩ := ih (k + 1) hk' K s1.1 s1.2 h2
    exact ⟨s', ⟨o, s1, ho, h1, h3⟩, h4⟩

theorem TRep.drawn {v : TV} {x : Value} {d : Nat} (h : TRep w M φ S v x) : TRep { w with drawn := d } M φ S v x :=
  TRep.mono (w := w) (w' := { w with drawn := d }) (fun _ _ _ => rfl) (fun _ _ h => h) (fun id o ho => ⟨o, ho, Nat.le_refl _, rfl, fun _ => ⟨rfl, rfl, rfl⟩⟩) h

theorem StoreOK.drawn {d : Nat} (h : StoreOK F φ S w) : StoreOK F φ S { w with drawn := d } := by
  refine ⟨fun id o ho => ?_, h.fresh, h.inj, h.far, h.old⟩
  have := h.obj id o ho
  cases o with
  | cells g et esz cs =>
    obtain ⟨arr, g1, g2, g3, g4⟩ := this
    exact ⟨arr, g1, g2, g3, fun i hi v hv => ⟨(g4 i hi v hv).1, (g4 i hi v hv).2.drawn⟩⟩
  | map es c =>
    obtain ⟨arr, g1, g2, g3⟩ := this
    exact ⟨arr, g1, g2, fun i hi e he => ⟨(g3 i hi e he).1.drawn, (g3 i hi e he).2.1.drawn, (g3 i hi e he).2.2⟩⟩

theorem awp_region_any {id : Nat} {Q : Exit → (Nat → TV) → Store → Prop} (hm : P.follows .mixedOrders = true) (hN : ops.all (dstOk N) = true) (hd : drawOk P b ops = true) (h : opsD P b ops ops.toList (Q .normal) T S) :
    awp P N (.region id ops true) Q T S := by
  intro F φ a w hs
  refine wp_region_any hm ?_
  obtain ⟨s', hr, hK⟩ := opsD_run ops.toList 0 (by simp) _ T S h
  simp only [drawOk, drawOkM, List.all_eq_true, List.mem_range, Bool.and_eq_true] at hd
  have hu : unlisted ops.size (Array.replicate ops.size false) = List.range' 0 ops.toList.length := by
    unfold unlisted
    rw [List.range_eq_range', Array.length_toList]
    rw [List.filter_eq_self]
    intro i hi
    simp at hi
    simp [hi]
  refine wpAny_of (M := maskOf ops) hN ?_ (fun i hi p hp => (hd i hi).2 p hp) ops.size _ (by simp) (by rw [hu]; simp) ?_ φ T S a _ (by rw [hu]; exact hr) ⟨hs.size, fun t => (hs.tmps t).drawn, hs.defers, hs.store.drawn⟩ fun φ' a' w' hs' hx' => ?_
  · intro i o ho e he hb
    have hi := (Array.getElem?_eq_some_iff.1 ho).1
    have := (hd i hi).1
    unfold backAt at this
    simp only [ho, Array.all_eq_true_iff_forall_mem] at this
    have := this e he
    simpa [hb] using this
  · intro j hj
    rw [Array.getD_eq_getD_getElem?, Array.getElem?_replicate] at hj
    split at hj <;> simp at hj
  · exact ⟨φ', s'.1, s'.2, hK, hs', ⟨hx'.size, hx'.kept, hx'.liv, hx'.objs, hx'.os, hx'.tape, hx'.output⟩⟩

/-! ### scopes: jumps to labels -/
def Jump (J : Nat → (Nat → TV) → Store → Prop) (Q : Exit → (Nat → TV) → Store → Prop) : Exit → (Nat → TV) → Store → Prop
  | .goto l, T, S => J l T S
  | e, T, S => Q e T S

theorem awp_scope {c : Code} {Q : Exit → (Nat → TV) → Store → Prop} (J : Nat → Nat → (Nat → TV) → Store → Prop)
    (first : awp P N c (Jump (fun l T S => ∃ n, J n l T S) Q) T S)
    (pass : ∀ n l T S, J n l T S → ∃ rest, findLabel c l = some rest ∧ awp P N rest (Jump (fun l' T S => ∃ m, m < n ∧ J m l' T S) Q) T S) : awp P N (.scope c) Q T S := by
  intro F φ a w hs b k cs
  have key : ∀ n, ∀ l T S φ1 a w, J n l T S → SRep N F φ1 T S a w → ∃ rest, findLabel c l = some rest ∧
      ∃ e a' w', (∃ φ' T' S', Q e T' S' ∧ SRep N F φ' T' S' a' w' ∧ Ext φ1 S w φ' S' w') ∧ Arrives P (lone (b.at a (.code rest :: .inScope c :: k)) cs w) b k cs e a' w' := by
    intro n
    induction n using Nat.strongRecOn with
    | _ n ih =>
      intro l T S φ1 a w hJ hs
      obtain ⟨rest, hf, hp⟩ := pass n l T S hJ
      refine ⟨rest, hf, ?_⟩
      obtain ⟨e, a1, w1, ⟨φ', T', S', hq, hs1, hx1⟩, harr⟩ := hp F φ1 a w hs b (.inScope c :: k) cs
      cases e with
      | normal => exact ⟨.normal, a1, w1, ⟨φ', T', S', hq, hs1, hx1⟩, Steps.trans harr (.one step_inScope)⟩
      | exit id => exact ⟨.exit id, a1, w1, ⟨φ', T', S', hq, hs1, hx1⟩, fun k' hk => harr k' (by simp [exitTo, hk])⟩
      | goto l' =>
        obtain ⟨m, hm, hJ'⟩ := hq
        obtain ⟨rest', hf', e2, a2, w2, ⟨φ2, T2, S2, q2, r2, x2⟩, harr2⟩ := ih m hm l' T' S' φ' a1 w1 hJ' hs1
        have hg : gotoIn l' (.inScope c :: k) = some (.code rest' :: .inScope c :: k) := by simp [gotoIn, hf']
        exact ⟨e2, a2, w2, ⟨φ2, T2, S2, q2, r2, hx1.trans x2⟩, .of_steps (harr _ hg) harr2⟩
      | ret => exact ⟨_, a1, w1, ⟨φ', T', S', hq, hs1, hx1⟩, harr⟩
      | panic ch => exact ⟨_, a1, w1, ⟨φ', T', S', hq, hs1, hx1⟩, harr⟩
      | outgrown => exact ⟨_, a1, w1, ⟨φ', T', S', hq, hs1, hx1⟩, harr⟩
  obtain ⟨e, a1, w1, ⟨φ', T', S', hq, hs1, hx1⟩, harr⟩ := first F φ a w hs b (.inScope c :: k) cs
  cases e with
  | normal => exact ⟨.normal, a1, w1, ⟨φ', T', S', hq, hs1, hx1⟩, .head step_scope (Steps.trans harr (.one step_inScope))⟩
  | exit id => exact ⟨.exit id, a1, w1, ⟨φ', T', S', hq, hs1, hx1⟩, fun k' hk => .head step_scope (harr k' (by simp [exitTo, hk]))⟩
  | goto l' =>
    obtain ⟨m, hJ'⟩ := hq
    obtain ⟨rest', hf', e2, a2, w2, ⟨φ2, T2, S2, q2, r2, x2⟩, harr2⟩ := key m l' T' S' φ' a1 w1 hJ' hs1
    have hg : gotoIn l' (.inScope c :: k) = some (.code rest' :: .inScope c :: k) := by simp [gotoIn, hf']
    exact ⟨e2, a2, w2, ⟨φ2, T2, S2, q2, r2, hx1.trans x2⟩, .of_steps (.head step_scope (harr _ hg)) harr2⟩
  | ret => exact ⟨_, a1, w1, ⟨φ', T', S', hq, hs1, hx1⟩, .of_steps (.one step_scope) harr⟩
  | panic ch => exact ⟨_, a1, w1, ⟨φ', T', S', hq, hs1, hx1⟩, .of_steps (.one step_scope) harr⟩
  | outgrown => exact ⟨_, a1, w1, ⟨φ', T', S', hq, hs1, hx1⟩, .of_steps (.one step_scope) harr⟩
end
end Go.Sim
