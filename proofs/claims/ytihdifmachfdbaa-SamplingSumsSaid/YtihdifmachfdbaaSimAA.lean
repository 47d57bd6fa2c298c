/- A part of the proof: values and stores in plain Lean, and the rules by which a walk is taken. -/
import Derived.Test.YtihdifmachfdbaaSimZ
set_option autoImplicit false
set_option linter.unusedSimpArgs false
set_option linter.unusedVariables false
namespace Go.Sim
open Go

/-! ### symbols brought to their form -/
section
universe u
variable {α : Type u}
def forceV0 (v : SV) (k : SV → α) : α := match v with
  | .int a b => k (.int a b) | .bool b => k (.bool b) | .tt => k .tt | .ff => k .ff | .str s => k (.str s) | .row t l => k (.row t l) | .nrow b t l => k (.nrow b t l) | .cv v => k (.cv v)
  | .rptr t l i c => k (.rptr t l i c) | .ptr a b c => k (.ptr a b c) | .eptr a b c d e f => k (.eptr a b c d e f) | .view a b c d => k (.view a b c d) | .gview a b => k (.gview a b)
  | .agg l => k (.agg l) | .tup l => k (.tup l) | .fn f a b => k (.fn f a b) | .ifc t v => k (.ifc t v) | .mapr i => k (.mapr i) | .arr a b c => k (.arr a b c) | .barr a b => k (.barr a b)
  | .lst t l => k (.lst t l) | .opt b v => k (.opt b v) | .taddr l => k (.taddr l) | .junk => k .junk
theorem forceV0_eq (v : SV) (k : SV → α) : forceV0 v k = k v := by cases v <;> rfl
def forceL : List SV → (List SV → α) → α
  | [], k => k []
  | v :: l, k => forceV0 v fun v => forceL l fun l => k (v :: l)
theorem forceL_eq : ∀ (l : List SV) (k : List SV → α), forceL l k = k l
  | [], k => rfl
  | v :: l, k => by rw [forceL, forceV0_eq, forceL_eq l]
def forceV (v : SV) (k : SV → α) : α := match v with
  | .int a b => k (.int a b) | .bool b => k (.bool b) | .tt => k .tt | .ff => k .ff | .str s => k (.str s) | .row t l => k (.row t l) | .nrow b t l => k (.nrow b t l) | .cv v => k (.cv v)
  | .rptr t l i c => k (.rptr t l i c) | .ptr a b c => k (.ptr a b c) | .eptr a b c d e f => k (.eptr a b c d e f) | .view a b c d => k (.view a b c d) | .gview a b => k (.gview a b)
  | .agg l => forceL l fun l => k (.agg l) | .tup l => forceL l fun l => k (.tup l) | .fn f a b => forceL a fun a => forceL b fun b => k (.fn f a b) | .ifc t v => forceV0 v fun v => k (.ifc t v) | .mapr i => k (.mapr i) | .arr a b c => k (.arr a b c) | .barr a b => k (.barr a b)
  | .lst t l => k (.lst t l) | .opt b v => forceV0 v fun v => k (.opt b v) | .taddr l => k (.taddr l) | .junk => k .junk
theorem forceV_eq (v : SV) (k : SV → α) : forceV v k = k v := by cases v <;> simp [forceV, forceL_eq, forceV0_eq]
def forceO : List SObj → (List SObj → α) → α
  | [], k => k []
  | .obj g et esz cs :: L, k => forceL cs fun cs => forceO L fun L => k (.obj g et esz cs :: L)
  | .grow et t l :: L, k => forceO L fun L => k (.grow et t l :: L)
  | .map es c :: L, k => forceO L fun L => k (.map es c :: L)
  | .gone :: L, k => forceO L fun L => k (.gone :: L)
theorem forceO_eq : ∀ (L : List SObj) (k : List SObj → α), forceO L k = k L
  | [], k => rfl
  | .obj g et esz cs :: L, k => by rw [forceO, forceL_eq, forceO_eq L]
  | .grow et t l :: L, k => by rw [forceO, forceO_eq L]
  | .map es c :: L, k => by rw [forceO, forceO_eq L]
  | .gone :: L, k => by rw [forceO, forceO_eq L]
end

def evalF (tab : Tab) (m : Bool) (V : Nat → SV) (L : List SObj) (op : Op) : Option (Prop × SV × List SObj) := match evalV tab m V L op with
  | some (ob, v, L') => forceV v fun v => forceO L' fun L' => some (ob, v, L')
  | none => none
theorem evalF_eq (tab : Tab) (m : Bool) (V : Nat → SV) (L : List SObj) (op : Op) : evalF tab m V L op = evalV tab m V L op := by
  unfold evalF
  split
  · rename_i h; rw [forceV_eq, forceO_eq, h]
  · rename_i h; rw [h]

/-! ### one step -/
section
variable {P : Program} {tab : Tab} {n0 N : Nat} {m b : Bool} {V : Nat → SV} {L L' : List SObj} {o : Oper} {os : List Oper} {ops : Array Oper} {ob : Prop} {v : SV} {d : Tmp}

theorem st (hT : TabOK P tab) {K : (Nat → TV) → Store → Prop} (hg : o.guard = none) (hd : o.dst = some d) (h : evalF tab m V L o.op = some (ob, v, L')) (hob : ob)
    (hk : opsWp P N ops os K (outT (putS V (some d) v)) (outS L')) : opsWp P N ops (o :: os) K (outT V) (outS L) := by
  rw [evalF_eq] at h
  refine ops_prim hg (evalV_ok hT h hob) ?_
  rw [outT_put, hd]
  exact hk
theorem st0 (hT : TabOK P tab) {K : (Nat → TV) → Store → Prop} (hg : o.guard = none) (hd : o.dst = none) (h : evalF tab m V L o.op = some (ob, v, L')) (hob : ob)
    (hk : opsWp P N ops os K (outT V) (outS L')) : opsWp P N ops (o :: os) K (outT V) (outS L) := by
  rw [evalF_eq] at h
  refine ops_prim hg (evalV_ok hT h hob) ?_
  rw [outT_put, hd]
  exact hk
theorem sd (hT : TabOK P tab) {K : (Nat → TV) → Store → Prop} (hg : o.guard = none) (hd : o.dst = some d) (h : evalF tab m V L o.op = some (ob, v, L')) (hob : ob)
    (hk : opsD P b ops os K (outT (putS V (some d) v)) (outS L')) : opsD P b ops (o :: os) K (outT V) (outS L) := by
  rw [evalF_eq] at h
  refine opd_prim hg (evalV_ok hT h hob) ?_
  rw [outT_put, hd]
  exact hk
theorem sd0 (hT : TabOK P tab) {K : (Nat → TV) → Store → Prop} (hg : o.guard = none) (hd : o.dst = none) (h : evalF tab m V L o.op = some (ob, v, L')) (hob : ob)
    (hk : opsD P b ops os K (outT V) (outS L')) : opsD P b ops (o :: os) K (outT V) (outS L) := by
  rw [evalF_eq] at h
  refine opd_prim hg (evalV_ok hT h hob) ?_
  rw [outT_put, hd]
  exact hk

/-! calls -/
def callS (V : Nat → SV) : Op → Option (FuncId × List SV)
  | .call c => match c.callee with
    | .value f => match evS V f with
      | .fn (.func g) l1 l2 => forceL (l1 ++ c.args.toList.map (evS V) ++ l2) fun l => some (g, l)
      | _ => none
    | _ => none
  | _ => none
theorem callS_ok {op : Op} {g : FuncId} {avs : List SV} (h : callS V op = some (g, avs)) : callOf (outT V) op = some (g, avs.map SV.out) := by
  unfold callS at h
  unfold callOf
  split at h
  · split at h
    · rename_i c f hc
      simp only [hc, evS_out]
      split at h
      · rename_i g' l1 l2 hf
        rw [forceL_eq] at h
        obtain ⟨rfl, rfl⟩ := ov h
        rw [hf]
        simp only [SV.out, SV.cells, List.headD_cons, outL_map, mapEv, List.map_append]
      · cases h
    · cases h
  · cases h
theorem callS_prim {op : Op} {q : FuncId × List SV} (h : callS V op = some q) (T : Nat → TV) (S : Store) : evalPrim P T S op = none := by
  unfold callS at h
  split at h
  · split at h
    · rename_i c f hc; simp only [evalPrim, hc]
    · cases h
  · cases h

/-- A call of closed arguments. -/
def CS (P : Program) (g : FuncId) (avs : List SV) (r : SV) : Prop := CCall P g (avs.map SV.out) r.out

/-- An argument that says as much as another one, or more. -/
def ArgW (a b : SV) : Prop := ∀ (w : World) (M : Nat → Prop) (φ : Env) (S : Store) (x : Value), TRep w M φ S a.out x → TRep w M φ S b.out x
theorem argw_same {a : SV} : ArgW a a := fun _ _ _ _ _ h => h
theorem argw_nil {t : Ty} : ArgW (.cv .nilsl) (.row t []) := fun w M φ S x h => by
  have h' : TRep w M φ S (.c .nilsl) x := h
  obtain rfl := rep_nilsl h'
  exact .c _ _ .slnil
theorem argw_eq {a b : SV} (h : a.out = b.out) : ArgW a b := fun w M φ S x hx => by rw [← h]; exact hx
theorem argw_tt : ArgW .tt (.bool true) := argw_eq rfl
theorem argw_ff : ArgW .ff (.bool false) := argw_eq rfl
inductive ArgsW : List SV → List SV → Prop where
  | nil : ArgsW [] []
  | cons {a b : SV} {l l' : List SV} (h : ArgW a b) (hl : ArgsW l l') : ArgsW (a :: l) (b :: l')
theorem ArgsW.len {l l' : List SV} (h : ArgsW l l') : l.length = l'.length := by induction h <;> simp_all
theorem ArgsW.get {l l' : List SV} (h : ArgsW l l') : ∀ (i : Nat) (h1 : i < l.length) (h2 : i < l'.length), ArgW l[i] l'[i] := by
  induction h with
  | nil => intro i h; simp at h
  | cons h hl ih =>
    intro i h1 h2
    cases i with
    | zero => exact h
    | succ i => exact ih i (by simpa using h1) (by simpa using h2)
theorem acall_argw {g : FuncId} {avs favs : List SV} {S : Store} {R : TV → Store → Prop} (ha : ArgsW avs favs) (h : ACall P g (favs.map SV.out) S R) : ACall P g (avs.map SV.out) S R := by
  intro F φ w args hok hl
  refine h F φ w args hok ⟨by rw [← hl.1]; simp [ha.len], fun i hi y hy => ?_⟩
  have h1 : i < avs.length := by rw [ha.len]; simpa using hi
  have := hl.2 i (by simpa using h1) y hy
  simp only [List.getElem_map] at this ⊢
  exact ha.get i h1 (by simpa using hi) w _ φ S y this
theorem ccall_argw {g : FuncId} {avs favs : List SV} {r : TV} (ha : ArgsW avs favs) (h : CCall P g (favs.map SV.out) r) : CCall P g (avs.map SV.out) r := fun S => acall_argw ha (h S)

theorem sc {K : (Nat → TV) → Store → Prop} {g : FuncId} {avs favs : List SV} {r : SV} (hA : CS P g favs r) (hg : o.guard = none) (hd : o.dst = some d) (hN : dstOk N o = true) (hc : callS V o.op = some (g, avs)) (hf : isFunc P g = true)
    (ha : ArgsW avs favs) (hk : opsWp P N ops os K (outT (putS V (some d) r)) (outS L)) : opsWp P N ops (o :: os) K (outT V) (outS L) := by
  refine ops_call hg (callS_prim hc _ _) (callS_ok hc) hN hf (ccall_argw ha hA) ?_
  rw [outT_put, hd]
  exact hk
theorem sdc {K : (Nat → TV) → Store → Prop} {g : FuncId} {avs favs : List SV} {r : SV} (hA : CS P g favs r) (hg : o.guard = none) (hd : o.dst = some d) (hc : callS V o.op = some (g, avs)) (hf : isFunc P g = true)
    (ha : ArgsW avs favs) (hk : opsD P b ops os K (outT (putS V (some d) r)) (outS L)) : opsD P b ops (o :: os) K (outT V) (outS L) := by
  refine opd_call hg (callS_prim hc _ _) (callS_ok hc) hf (ccall_argw ha hA) ?_
  rw [outT_put, hd]
  exact hk

/-! guards: what is done only if a slot is true (false) -/
def guardS (want : Bool) : SV → Option Bool
  | .bool b => match want with
    | true => some b
    | false => some (!b)
  | .tt => some want
  | .ff => some (!want)
  | .opt c (.bool b) => match want with
    | true => some (c && b)
    | false => some (c && !b)
  | .opt c .tt => match want with
    | true => some c
    | false => some false
  | .opt c .ff => match want with
    | true => some false
    | false => some c
  | _ => none
theorem guardS_ok {want c : Bool} {j : Nat} {t : Tmp} (ht : (ops[j]?).bind (·.dst) = some t) (h : guardS want (V t) = some c) : ∃ x, guardVal ops (outT V) j = some x ∧ (x = some want ↔ c = true) := by
  unfold guardVal
  simp only [ht, outT]
  unfold guardS at h
  split at h
  · rename_i b hv
    refine ⟨some b, by rw [hv]; rfl, ?_⟩
    cases want <;> (injection h with h; subst h; cases b <;> simp)
  · rename_i hv
    refine ⟨some true, by rw [hv]; rfl, ?_⟩
    injection h with h; subst h; cases want <;> simp
  · rename_i hv
    refine ⟨some false, by rw [hv]; rfl, ?_⟩
    injection h with h; subst h; cases want <;> simp
  · rename_i c' b hv
    cases c' with
    | true =>
      refine ⟨some b, by rw [hv]; rfl, ?_⟩
      cases want <;> (injection h with h; subst h; cases b <;> simp)
    | false =>
      refine ⟨none, by rw [hv]; rfl, ?_⟩
      cases want <;> (injection h with h; subst h; cases b <;> simp)
  · rename_i c' hv
    cases c' with
    | true =>
      refine ⟨some true, by rw [hv]; rfl, ?_⟩
      cases want <;> (injection h with h; subst h; simp)
    | false =>
      refine ⟨none, by rw [hv]; rfl, ?_⟩
      cases want <;> (injection h with h; subst h; simp)
  · rename_i c' hv
    cases c' with
    | true =>
      refine ⟨some false, by rw [hv]; rfl, ?_⟩
      cases want <;> (injection h with h; subst h; simp)
    | false =>
      refine ⟨none, by rw [hv]; rfl, ?_⟩
      cases want <;> (injection h with h; subst h; simp)
  · cases h

/-- Slots without their conditions. -/
def stripV (V : Nat → SV) : Nat → SV := fun t => match V t with
  | .opt _ v => v
  | v => v
/-- The conditions of the operands. -/
def conds (V : Nat → SV) : List Operand → Prop → Prop
  | [], p => p
  | .tmp t :: l, p => match V t with
    | .opt c _ => c = true ∧ conds V l p
    | _ => conds V l p
  | _ :: l, p => conds V l p
def condsK (V : Nat → SV) {α : Type} : List Operand → Prop → (Prop → α) → α
  | [], p, k => k p
  | .tmp t :: l, p, k => match V t with
    | .opt c _ => condsK V l p fun q => k (c = true ∧ q)
    | _ => condsK V l p k
  | _ :: l, p, k => condsK V l p k
theorem condsK_eq {α : Type} : ∀ (l : List Operand) (p : Prop) (k : Prop → α), condsK V l p k = k (conds V l p)
  | [], p, k => rfl
  | .tmp t :: l, p, k => by
    simp only [condsK, conds]
    split <;> rw [condsK_eq l]
  | .const _ :: l, p, k => by simp only [condsK, conds]; rw [condsK_eq l]
  | .global _ :: l, p, k => by simp only [condsK, conds]; rw [condsK_eq l]
  | .func _ :: l, p, k => by simp only [condsK, conds]; rw [condsK_eq l]
theorem conds_ok : ∀ (l : List Operand) (p : Prop), conds V l p → p ∧ ∀ x ∈ l, ev (outT V) x = ev (outT (stripV V)) x
  | [], p, h => ⟨h, fun x hx => by simp at hx⟩
  | x :: l, p, h => by
    have key : conds V l p → ev (outT V) x = ev (outT (stripV V)) x → p ∧ ∀ y ∈ x :: l, ev (outT V) y = ev (outT (stripV V)) y := fun h1 h2 => by
      obtain ⟨a1, a2⟩ := conds_ok l p h1
      exact ⟨a1, fun y hy => by
        rcases List.mem_cons.1 hy with rfl | hy
        · exact h2
        · exact a2 y hy⟩
    cases x with
    | tmp t =>
      simp only [conds] at h
      split at h
      · rename_i c v hv
        obtain ⟨rfl, h2⟩ := h
        refine key h2 ?_
        simp only [ev, outT, stripV, hv]
        rfl
      · rename_i hv
        refine key h ?_
        have e : stripV V t = V t := by
          unfold stripV
          split
          · rename_i hv2; exact absurd hv2 (hv _ _)
          · rfl
        simp only [ev, outT, e]
    | const c => exact key h rfl
    | global g => exact key h rfl
    | func f => exact key h rfl

/-- The conditions of an operation's operands, written out. -/
def condsV (V : Nat → SV) (op : Op) : Option Prop := condsK V op.operands.toList True fun q => some q
theorem condsV_ok {op : Op} {q : Prop} (h : condsV V op = some q) (hq : q) : ∀ x ∈ op.operands.toList, ev (outT V) x = ev (outT (stripV V)) x := by
  unfold condsV at h
  rw [condsK_eq] at h
  injection h with h
  subst h
  exact (conds_ok _ _ hq).2

def isPick : Op → Bool
  | .pick _ _ _ => true
  | _ => false
def evalG (tab : Tab) (m : Bool) (V : Nat → SV) (L : List SObj) (op : Op) : Option (Prop × SV × List SObj) := match isPick op with
  | true => evalF tab m V L op
  | false => match evalF tab m (stripV V) L op with
    | some (ob, v, L') => condsK V op.operands.toList ob fun q => some (q, v, L')
    | none => none
theorem evalG_ok (hT : TabOK P tab) {op : Op} (h : evalG tab m V L op = some (ob, v, L')) (hob : ob) : evalPrim P (outT V) (outS L) op = some (v.out, outS L') := by
  unfold evalG at h
  split at h
  · rw [evalF_eq] at h
    exact evalV_ok hT h hob
  · split at h
    · rename_i ob' v' L1 he
      rw [condsK_eq] at h
      injection h with h
      simp only [Prod.mk.injEq] at h
      obtain ⟨rfl, rfl, rfl⟩ := h
      obtain ⟨h1, h2⟩ := conds_ok _ _ hob
      rw [evalF_eq] at he
      rw [evalPrim_congr op fun x hx => h2 x (by simpa using hx)]
      exact evalV_ok hT he h1
    · cases h

theorem out_opt (c : Bool) (v : SV) : (SV.opt c v).out = bif c then v.out else .und := by cases c <;> rfl

theorem stg (hT : TabOK P tab) {K : (Nat → TV) → Store → Prop} {j : Nat} {want c : Bool} {t : Tmp} (hg : o.guard = some (j, want)) (ht : (ops[j]?).bind (·.dst) = some t) (hc : guardS want (V t) = some c) (hd : o.dst = some d)
    (h : evalG tab m V L o.op = some (ob, v, L)) (hob : c = true → ob) (hk : opsWp P N ops os K (outT (putS V (some d) (.opt c v))) (outS L)) : opsWp P N ops (o :: os) K (outT V) (outS L) := by
  obtain ⟨x, hx, hiff⟩ := guardS_ok ht hc
  simp only [opsWp, hg, hx]
  rw [← outT_put] at hk
  cases c with
  | true =>
    rw [if_pos (hiff.2 rfl)]
    refine .inl ⟨_, _, evalG_ok hT h (hob rfl), ?_⟩
    rw [hd]
    exact hk
  | false =>
    rw [if_neg (fun e => by simpa using hiff.1 e), hd]
    exact hk
theorem sdg (hT : TabOK P tab) {K : (Nat → TV) → Store → Prop} {j : Nat} {want c : Bool} {t : Tmp} (hg : o.guard = some (j, want)) (ht : (ops[j]?).bind (·.dst) = some t) (hc : guardS want (V t) = some c) (hd : o.dst = some d)
    (h : evalG tab m V L o.op = some (ob, v, L)) (hob : c = true → ob) (hk : opsD P b ops os K (outT (putS V (some d) (.opt c v))) (outS L)) : opsD P b ops (o :: os) K (outT V) (outS L) := by
  obtain ⟨x, hx, hiff⟩ := guardS_ok ht hc
  simp only [opsD, hg, hx]
  rw [← outT_put] at hk
  cases c with
  | true =>
    rw [if_pos (hiff.2 rfl)]
    unfold stepD
    rw [evalG_ok hT h (hob rfl), hd]
    exact hk
  | false =>
    rw [if_neg (fun e => by simpa using hiff.1 e), hd]
    exact hk

theorem scg {K : (Nat → TV) → Store → Prop} {j : Nat} {want c : Bool} {t : Tmp} {g : FuncId} {avs favs : List SV} {r : SV} (hA : c = true → CS P g favs r) (hg : o.guard = some (j, want)) (ht : (ops[j]?).bind (·.dst) = some t) (hcd : guardS want (V t) = some c) (hd : o.dst = some d)
    (hN : dstOk N o = true) (hc : callS (stripV V) o.op = some (g, avs)) (hf : isFunc P g = true) {q : Prop} (ha : c = true → ArgsW avs favs) (hcv : condsV V o.op = some q) (hq : c = true → q)
    (hk : opsWp P N ops os K (outT (putS V (some d) (.opt c r))) (outS L)) : opsWp P N ops (o :: os) K (outT V) (outS L) := by
  obtain ⟨x, hx, hiff⟩ := guardS_ok ht hcd
  simp only [opsWp, hg, hx]
  rw [← outT_put] at hk
  cases c with
  | true =>
    rw [if_pos (hiff.2 rfl)]
    refine .inr ?_
    have e := callOf_congr (T := outT V) (T' := outT (stripV V)) o.op fun x hx => condsV_ok hcv (hq rfl) x (by simpa using hx)
    refine callOf_awp hN (e.trans (callS_ok hc)) hf (ccall_argw (ha rfl) (hA rfl)) ?_
    rw [hd]
    exact hk
  | false =>
    rw [if_neg (fun e => by simpa using hiff.1 e), hd]
    exact hk
theorem sdcg {K : (Nat → TV) → Store → Prop} {j : Nat} {want c : Bool} {t : Tmp} {g : FuncId} {avs favs : List SV} {r : SV} (hA : c = true → CS P g favs r) (hg : o.guard = some (j, want)) (ht : (ops[j]?).bind (·.dst) = some t) (hcd : guardS want (V t) = some c) (hd : o.dst = some d)
    (hc : callS (stripV V) o.op = some (g, avs)) (hf : isFunc P g = true) {q : Prop} (ha : c = true → ArgsW avs favs) (hcv : condsV V o.op = some q) (hq : c = true → q)
    (hk : opsD P b ops os K (outT (putS V (some d) (.opt c r))) (outS L)) : opsD P b ops (o :: os) K (outT V) (outS L) := by
  obtain ⟨x, hx, hiff⟩ := guardS_ok ht hcd
  simp only [opsD, hg, hx]
  rw [← outT_put] at hk
  cases c with
  | true =>
    rw [if_pos (hiff.2 rfl)]
    unfold stepD
    rw [callS_prim hc]
    have e := callOf_congr (T := outT V) (T' := outT (stripV V)) o.op fun x hx => condsV_ok hcv (hq rfl) x (by simpa using hx)
    exact ⟨g, _, _, e.trans (callS_ok hc), hf, .inl (ccall_argw (ha rfl) (hA rfl)), by rw [hd]; exact hk⟩
  | false =>
    rw [if_neg (fun e => by simpa using hiff.1 e), hd]
    exact hk
end
end Go.Sim
