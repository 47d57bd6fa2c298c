/- A part of the proof: values and stores in plain Lean, and the rules by which a walk is taken. -/
import Derived.Test.YtihdifmachfdbaaSimAE
set_option autoImplicit false
set_option linter.unusedSimpArgs false
set_option linter.unusedVariables false
namespace Go.Sim
open Go
section
variable {P : Program} {N : Nat} {ops : Array Oper}
theorem aw_regC {n0 : Nat} {V : Nat → SV} {L : List SObj} (b : Bool) {id : Nat} {l0 l1 l2 : List Oper} {Q : Exit → (Nat → TV) → Store → Prop} (h k : Nat) (hm : P.follows .mixedOrders = true) (hN : ops.all (dstOk N) = true) (hd : cutOk P b ops h k = true) (h0 : ops.toList.take h = l0) (h1 : (ops.toList.take k).drop h = l1) (h2 : ops.toList.drop k = l2)
    (hw : opsD P b ops l0 (fun T S => opsD P b ops l1 (fun T S => opsWp P N ops l2 (fun T S => Q .normal T S) T S) T S) (outT V) (outS L)) : awpB P n0 N (.region id ops true) Q (outT V) (outS L) := awpB_of (awp_region_cut hm hN hd h0 h1 h2 hw)
end
end Go.Sim
