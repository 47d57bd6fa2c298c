/- A part of the proof: values and stores in plain Lean, and the rules by which a walk is taken. -/
import Derived.Test.YtihdifmachfdbaaSimAN
set_option autoImplicit false
set_option linter.unusedSimpArgs false
set_option linter.unusedVariables false
namespace Go.Sim
open Go
section
variable {P : Program} {tab : Tab} {N : Nat} {b : Bool} {V : Nat → SV} {L L' : List SObj} {o : Oper} {os : List Oper} {ops : Array Oper} {v : SV} {d : Tmp}
/-! ### steps that ask for nothing -/
theorem zst (hT : TabOK P tab) {K : (Nat → TV) → Store → Prop} (hg : o.guard = none) (hd : o.dst = some d) (h : evalF tab false V L o.op = some (True, v, L'))
    (hk : opsWp P N ops os K (outT (putS V (some d) v)) (outS L')) : opsWp P N ops (o :: os) K (outT V) (outS L) := st hT hg hd h trivial hk
theorem zdt (hT : TabOK P tab) {K : (Nat → TV) → Store → Prop} (hg : o.guard = none) (hd : o.dst = some d) (h : evalF tab false V L o.op = some (True, v, L'))
    (hk : opsD P b ops os K (outT (putS V (some d) v)) (outS L')) : opsD P b ops (o :: os) K (outT V) (outS L) := sd hT hg hd h trivial hk
theorem zgt (hT : TabOK P tab) {K : (Nat → TV) → Store → Prop} {j : Nat} {want c : Bool} {t : Tmp} (hg : o.guard = some (j, want)) (ht : (ops[j]?).bind (·.dst) = some t) (hc : guardS want (V t) = some c) (hd : o.dst = some d)
    (h : evalG tab false V L o.op = some (True, v, L)) (hk : opsWp P N ops os K (outT (putS V (some d) (.opt c v))) (outS L)) : opsWp P N ops (o :: os) K (outT V) (outS L) := stg hT hg ht hc hd h (fun _ => trivial) hk
theorem zdgt (hT : TabOK P tab) {K : (Nat → TV) → Store → Prop} {j : Nat} {want c : Bool} {t : Tmp} (hg : o.guard = some (j, want)) (ht : (ops[j]?).bind (·.dst) = some t) (hc : guardS want (V t) = some c) (hd : o.dst = some d)
    (h : evalG tab false V L o.op = some (True, v, L)) (hk : opsD P b ops os K (outT (putS V (some d) (.opt c v))) (outS L)) : opsD P b ops (o :: os) K (outT V) (outS L) := sdg hT hg ht hc hd h (fun _ => trivial) hk
theorem stq {m : Bool} {ob : Prop} (hT : TabOK P tab) {K : (Nat → TV) → Store → Prop} (hg : o.guard = none) (h : evalF tab m V L o.op = some (ob, v, L')) (hob : ob)
    (hk : opsWp P N ops os K (outT (putS V o.dst v)) (outS L')) : opsWp P N ops (o :: os) K (outT V) (outS L) := by
  rw [evalF_eq] at h
  refine ops_prim hg (evalV_ok hT h hob) ?_
  rw [outT_put]
  exact hk
theorem sdq {m : Bool} {ob : Prop} (hT : TabOK P tab) {K : (Nat → TV) → Store → Prop} (hg : o.guard = none) (h : evalF tab m V L o.op = some (ob, v, L')) (hob : ob)
    (hk : opsD P b ops os K (outT (putS V o.dst v)) (outS L')) : opsD P b ops (o :: os) K (outT V) (outS L) := by
  rw [evalF_eq] at h
  refine opd_prim hg (evalV_ok hT h hob) ?_
  rw [outT_put]
  exact hk
end
end Go.Sim
