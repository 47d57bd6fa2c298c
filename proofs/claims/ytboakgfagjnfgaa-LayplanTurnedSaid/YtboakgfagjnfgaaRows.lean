/-
  No cell of these rows narrows 'for every input' (looked for: loops, veiled, ifaces, maps, wideKeys, modest, calm, conditions, laid).
  DERIVED. THE GIVEN ROWS OF THIS SEAT. 5 by the template 'for every input the law returns true; each argument reads behind the call as it read before'; 0 by the template 'total and deterministic' (their statements: YtboakgfagjnfgaaTotals.lean).
  GIVEN WITH THE SEED: the statements are not yours to turn. If you find one false, say at which input.
  Laid BY PROGRAM, IN A SANDBOX (cutbox-rows.mjs): the forced cells as the released guide's own fill.sh prints them over the translation 9319e7381bc01241… (all of the seat's roots in one cut). By AI agents, Wed Nov 11 2026. No macro, syntax, notation, axiom, sorry.
-/
import Derived.Test.YtboakgfagjnfgaaChecked
import GoSem.Claim
import GoSem.ClaimJoined
import GoSem.ClaimMapViews
import Derived.JoinedTies
import Derived.KernelRfl
namespace Go.Proofs.Ytboakgfagjnfgaa
/- THE CELL 'sum', in the pinned program and in every row, IS THE sha256 OF THE DUMP (.gsa) THAT YtboakgfagjnfgaaProg.lean LOADS. Nothing in Lean hashes anything: it is a label: what it is worth is what the hold of that sum in a sandbox is worth. -/
noncomputable def Try.pinned : Pinned := { name := "ytboakgfagjnfgaa", sum := "9319e7381bc01241b911d61162ccf43417b18b0524e50a7216e9571414615551", checked := Try.checked }
namespace Rows
def none {H : Type} : Left H := { results := [], args := [] }

/-- 'garmentlaw36.LayplanOptimal': WHATEVER THE INPUT: true; the input reads as it did. -/
def layplanOptimalSpec : ChangeSpec := { name := "layplanOptimal", fn := fun _ => fun
  | [d1, d2, d3] => { results := [.lit (.bool true)], args := [d1, d2, d3] }
  | _ => none }
def layplanOptimalRow : OpenClaim := { program := "ytboakgfagjnfgaa", sum := "9319e7381bc01241b911d61162ccf43417b18b0524e50a7216e9571414615551", func := "garment/garmentlaw36.LayplanOptimal", spec := "layplanOptimal", unfollowed := true, recurses := true, apart := false }
def LayplanOptimalSaid : Prop := layplanOptimalRow.holds Try.pinned (OpenSpec.ofChange layplanOptimalSpec)

/-- ITS FALSE NEIGHBOUR: 'it returns false'. Refute it at one input. -/
def layplanOptimalWrong : ChangeSpec := { name := "layplanOptimal", fn := fun _ => fun
  | [d1, d2, d3] => { results := [.lit (.bool false)], args := [d1, d2, d3] }
  | _ => none }
def LayplanOptimalWrongFalsely : Prop := layplanOptimalRow.holds Try.pinned (OpenSpec.ofChange layplanOptimalWrong)

/-- 'garmentlaw36.LayplanLinear': WHATEVER THE INPUT: true; the input reads as it did. -/
def layplanLinearSpec : ChangeSpec := { name := "layplanLinear", fn := fun _ => fun
  | [d1, d2, d3] => { results := [.lit (.bool true)], args := [d1, d2, d3] }
  | _ => none }
def layplanLinearRow : OpenClaim := { program := "ytboakgfagjnfgaa", sum := "9319e7381bc01241b911d61162ccf43417b18b0524e50a7216e9571414615551", func := "garment/garmentlaw36.LayplanLinear", spec := "layplanLinear", unfollowed := true, recurses := true, apart := false }
def LayplanLinearSaid : Prop := layplanLinearRow.holds Try.pinned (OpenSpec.ofChange layplanLinearSpec)

/-- ITS FALSE NEIGHBOUR: 'it returns false'. Refute it at one input. -/
def layplanLinearWrong : ChangeSpec := { name := "layplanLinear", fn := fun _ => fun
  | [d1, d2, d3] => { results := [.lit (.bool false)], args := [d1, d2, d3] }
  | _ => none }
def LayplanLinearWrongFalsely : Prop := layplanLinearRow.holds Try.pinned (OpenSpec.ofChange layplanLinearWrong)

/-- 'garmentlaw36.LayplanMore': WHATEVER THE INPUT: true; the input reads as it did. -/
def layplanMoreSpec : ChangeSpec := { name := "layplanMore", fn := fun _ => fun
  | [d1, d2] => { results := [.lit (.bool true)], args := [d1, d2] }
  | _ => none }
def layplanMoreRow : OpenClaim := { program := "ytboakgfagjnfgaa", sum := "9319e7381bc01241b911d61162ccf43417b18b0524e50a7216e9571414615551", func := "garment/garmentlaw36.LayplanMore", spec := "layplanMore", unfollowed := true, recurses := true, apart := false }
def LayplanMoreSaid : Prop := layplanMoreRow.holds Try.pinned (OpenSpec.ofChange layplanMoreSpec)

/-- ITS FALSE NEIGHBOUR: 'it returns false'. Refute it at one input. -/
def layplanMoreWrong : ChangeSpec := { name := "layplanMore", fn := fun _ => fun
  | [d1, d2] => { results := [.lit (.bool false)], args := [d1, d2] }
  | _ => none }
def LayplanMoreWrongFalsely : Prop := layplanMoreRow.holds Try.pinned (OpenSpec.ofChange layplanMoreWrong)

/-- 'garmentlaw36.LayplanBack': WHATEVER THE INPUT: true; the input reads as it did. -/
def layplanBackSpec : ChangeSpec := { name := "layplanBack", fn := fun _ => fun
  | [d1, d2, d3] => { results := [.lit (.bool true)], args := [d1, d2, d3] }
  | _ => none }
def layplanBackRow : OpenClaim := { program := "ytboakgfagjnfgaa", sum := "9319e7381bc01241b911d61162ccf43417b18b0524e50a7216e9571414615551", func := "garment/garmentlaw36.LayplanBack", spec := "layplanBack", unfollowed := true, recurses := true, apart := false }
def LayplanBackSaid : Prop := layplanBackRow.holds Try.pinned (OpenSpec.ofChange layplanBackSpec)

/-- ITS FALSE NEIGHBOUR: 'it returns false'. Refute it at one input. -/
def layplanBackWrong : ChangeSpec := { name := "layplanBack", fn := fun _ => fun
  | [d1, d2, d3] => { results := [.lit (.bool false)], args := [d1, d2, d3] }
  | _ => none }
def LayplanBackWrongFalsely : Prop := layplanBackRow.holds Try.pinned (OpenSpec.ofChange layplanBackWrong)

/-- 'garmentlaw36.LayplanTurned': WHATEVER THE INPUT: true; the input reads as it did. -/
def layplanTurnedSpec : ChangeSpec := { name := "layplanTurned", fn := fun _ => fun
  | [d1, d2] => { results := [.lit (.bool true)], args := [d1, d2] }
  | _ => none }
def layplanTurnedRow : OpenClaim := { program := "ytboakgfagjnfgaa", sum := "9319e7381bc01241b911d61162ccf43417b18b0524e50a7216e9571414615551", func := "garment/garmentlaw36.LayplanTurned", spec := "layplanTurned", unfollowed := true, recurses := true, apart := false }
def LayplanTurnedSaid : Prop := layplanTurnedRow.holds Try.pinned (OpenSpec.ofChange layplanTurnedSpec)

/-- ITS FALSE NEIGHBOUR: 'it returns false'. Refute it at one input. -/
def layplanTurnedWrong : ChangeSpec := { name := "layplanTurned", fn := fun _ => fun
  | [d1, d2] => { results := [.lit (.bool false)], args := [d1, d2] }
  | _ => none }
def LayplanTurnedWrongFalsely : Prop := layplanTurnedRow.holds Try.pinned (OpenSpec.ofChange layplanTurnedWrong)

/- THE SECOND FORM. 'bulk': how many values and letters a reading holds, each counted each time it is reached (what is shared counts as often as it is met; a slice's spare places count too). A statement '..UptoSaid' is the law's where the arguments, and the package variables that the reading takes, are together of bulk at most 1048576: NARROWER than '..Said'. Prove '..Said' where nothing that the law and all that it calls make is longer than what came in: it says more and counts as full. Else prove '..UptoSaid'. A law counts once. -/
mutual
def uptoBulk {H : Type} : DataW H → Nat
  | .lit (.string bytes) => bytes.length + 1
  | .lit _ => 1
  | .nil => 1
  | .ptr d => uptoBulk d + 1
  | .slice elems spare => uptoBulkAll elems + uptoBulkAll spare + 1
  | .agg parts => uptoBulkAll parts + 1
  | .iface _ d => uptoBulk d + 1
  | .map entries => uptoBulkEntries entries + 1
  | .held _ => 1
def uptoBulkAll {H : Type} : List (DataW H) → Nat
  | [] => 0
  | d :: r => uptoBulk d + uptoBulkAll r
def uptoBulkEntries {H : Type} : List (Lit × DataW H) → Nat
  | [] => 0
  | x :: r => uptoBulkEntry x + uptoBulkEntries r
def uptoBulkEntry {H : Type} : Lit × DataW H → Nat
  | (.string bytes, d) => bytes.length + uptoBulk d + 1
  | (_, d) => uptoBulk d + 1
 end
def uptoSmall : (H : Type) → List (DataW H) → Bool := fun _ ds => decide (uptoBulkAll ds ≤ 1048576)
def OpenSpec.upto (s : _root_.Go.ChangeSpec) : _root_.Go.OpenSpec := { _root_.Go.OpenSpec.ofChange s with cond := some uptoSmall }

/-- 'garmentlaw36.LayplanOptimal', WHERE WHAT IT READS IS OF BULK AT MOST 1048576: true; the input reads as it did. -/
def layplanOptimalUptoRow : OpenClaim := { program := "ytboakgfagjnfgaa", sum := "9319e7381bc01241b911d61162ccf43417b18b0524e50a7216e9571414615551", func := "garment/garmentlaw36.LayplanOptimal", spec := "layplanOptimal", unfollowed := true, recurses := true, apart := false, narrowed := true }
def LayplanOptimalUptoSaid : Prop := layplanOptimalUptoRow.holds Try.pinned (OpenSpec.upto layplanOptimalSpec)

/-- 'garmentlaw36.LayplanLinear', WHERE WHAT IT READS IS OF BULK AT MOST 1048576: true; the input reads as it did. -/
def layplanLinearUptoRow : OpenClaim := { program := "ytboakgfagjnfgaa", sum := "9319e7381bc01241b911d61162ccf43417b18b0524e50a7216e9571414615551", func := "garment/garmentlaw36.LayplanLinear", spec := "layplanLinear", unfollowed := true, recurses := true, apart := false, narrowed := true }
def LayplanLinearUptoSaid : Prop := layplanLinearUptoRow.holds Try.pinned (OpenSpec.upto layplanLinearSpec)

/-- 'garmentlaw36.LayplanMore', WHERE WHAT IT READS IS OF BULK AT MOST 1048576: true; the input reads as it did. -/
def layplanMoreUptoRow : OpenClaim := { program := "ytboakgfagjnfgaa", sum := "9319e7381bc01241b911d61162ccf43417b18b0524e50a7216e9571414615551", func := "garment/garmentlaw36.LayplanMore", spec := "layplanMore", unfollowed := true, recurses := true, apart := false, narrowed := true }
def LayplanMoreUptoSaid : Prop := layplanMoreUptoRow.holds Try.pinned (OpenSpec.upto layplanMoreSpec)

/-- 'garmentlaw36.LayplanBack', WHERE WHAT IT READS IS OF BULK AT MOST 1048576: true; the input reads as it did. -/
def layplanBackUptoRow : OpenClaim := { program := "ytboakgfagjnfgaa", sum := "9319e7381bc01241b911d61162ccf43417b18b0524e50a7216e9571414615551", func := "garment/garmentlaw36.LayplanBack", spec := "layplanBack", unfollowed := true, recurses := true, apart := false, narrowed := true }
def LayplanBackUptoSaid : Prop := layplanBackUptoRow.holds Try.pinned (OpenSpec.upto layplanBackSpec)

/-- 'garmentlaw36.LayplanTurned', WHERE WHAT IT READS IS OF BULK AT MOST 1048576: true; the input reads as it did. -/
def layplanTurnedUptoRow : OpenClaim := { program := "ytboakgfagjnfgaa", sum := "9319e7381bc01241b911d61162ccf43417b18b0524e50a7216e9571414615551", func := "garment/garmentlaw36.LayplanTurned", spec := "layplanTurned", unfollowed := true, recurses := true, apart := false, narrowed := true }
def LayplanTurnedUptoSaid : Prop := layplanTurnedUptoRow.holds Try.pinned (OpenSpec.upto layplanTurnedSpec)

end Rows
end Go.Proofs.Ytboakgfagjnfgaa
