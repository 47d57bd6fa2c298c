/-
  No cell of these rows narrows 'for every input' (looked for: loops, veiled, ifaces, maps, wideKeys, modest, calm, conditions, laid).
  DERIVED. THE GIVEN ROWS OF THIS SEAT. 9 by the template 'for every input the law returns true; each argument reads behind the call as it read before'; 0 by the template 'total and deterministic' (their statements: YtgobcpfcekgcfaaTotals.lean).
  GIVEN WITH THE SEED: the statements are not yours to turn. If you find one false, say at which input.
  Laid BY PROGRAM, IN A SANDBOX (cutbox-rows.mjs): the forced cells as the released guide's own fill.sh prints them over the translation de7a267f96a0a093… (all of the seat's roots in one cut). By AI agents, Wed Nov 11 2026. No macro, syntax, notation, axiom, sorry.
-/
import Derived.Test.YtgobcpfcekgcfaaChecked
import GoSem.Claim
import GoSem.ClaimJoined
import GoSem.ClaimMapViews
import Derived.JoinedTies
import Derived.KernelRfl
namespace Go.Proofs.Ytgobcpfcekgcfaa
/- THE CELL 'sum', in the pinned program and in every row, IS THE sha256 OF THE DUMP (.gsa) THAT YtgobcpfcekgcfaaProg.lean LOADS. Nothing in Lean hashes anything: it is a label: what it is worth is what the hold of that sum in a sandbox is worth. -/
noncomputable def Try.pinned : Pinned := { name := "ytgobcpfcekgcfaa", sum := "de7a267f96a0a0932d62488097b4b248aae4e222d8a1fa263326986ebee67424", checked := Try.checked }
namespace Rows
def none {H : Type} : Left H := { results := [], args := [] }

/-- 'garmentlaw05.DrawsNext': WHATEVER THE INPUT: true; the input reads as it did. -/
def drawsNextSpec : ChangeSpec := { name := "drawsNext", fn := fun _ => fun
  | [d1, d2] => { results := [.lit (.bool true)], args := [d1, d2] }
  | _ => none }
def drawsNextRow : OpenClaim := { program := "ytgobcpfcekgcfaa", sum := "de7a267f96a0a0932d62488097b4b248aae4e222d8a1fa263326986ebee67424", func := "garment/garmentlaw05.DrawsNext", spec := "drawsNext", recurses := true, apart := false }
def DrawsNextSaid : Prop := drawsNextRow.holds Try.pinned (OpenSpec.ofChange drawsNextSpec)

/-- ITS FALSE NEIGHBOUR: 'it returns false'. Refute it at one input. -/
def drawsNextWrong : ChangeSpec := { name := "drawsNext", fn := fun _ => fun
  | [d1, d2] => { results := [.lit (.bool false)], args := [d1, d2] }
  | _ => none }
def DrawsNextWrongFalsely : Prop := drawsNextRow.holds Try.pinned (OpenSpec.ofChange drawsNextWrong)

/-- 'garmentlaw05.DrawsShuffles': WHATEVER THE INPUT: true; the input reads as it did. -/
def drawsShufflesSpec : ChangeSpec := { name := "drawsShuffles", fn := fun _ => fun
  | [d1, d2] => { results := [.lit (.bool true)], args := [d1, d2] }
  | _ => none }
def drawsShufflesRow : OpenClaim := { program := "ytgobcpfcekgcfaa", sum := "de7a267f96a0a0932d62488097b4b248aae4e222d8a1fa263326986ebee67424", func := "garment/garmentlaw05.DrawsShuffles", spec := "drawsShuffles", recurses := true, apart := false }
def DrawsShufflesSaid : Prop := drawsShufflesRow.holds Try.pinned (OpenSpec.ofChange drawsShufflesSpec)

/-- ITS FALSE NEIGHBOUR: 'it returns false'. Refute it at one input. -/
def drawsShufflesWrong : ChangeSpec := { name := "drawsShuffles", fn := fun _ => fun
  | [d1, d2] => { results := [.lit (.bool false)], args := [d1, d2] }
  | _ => none }
def DrawsShufflesWrongFalsely : Prop := drawsShufflesRow.holds Try.pinned (OpenSpec.ofChange drawsShufflesWrong)

/-- 'garmentlaw05.DrawsSamples': WHATEVER THE INPUT: true; the input reads as it did. -/
def drawsSamplesSpec : ChangeSpec := { name := "drawsSamples", fn := fun _ => fun
  | [d1, d2, d3] => { results := [.lit (.bool true)], args := [d1, d2, d3] }
  | _ => none }
def drawsSamplesRow : OpenClaim := { program := "ytgobcpfcekgcfaa", sum := "de7a267f96a0a0932d62488097b4b248aae4e222d8a1fa263326986ebee67424", func := "garment/garmentlaw05.DrawsSamples", spec := "drawsSamples", recurses := true, apart := false }
def DrawsSamplesSaid : Prop := drawsSamplesRow.holds Try.pinned (OpenSpec.ofChange drawsSamplesSpec)

/-- ITS FALSE NEIGHBOUR: 'it returns false'. Refute it at one input. -/
def drawsSamplesWrong : ChangeSpec := { name := "drawsSamples", fn := fun _ => fun
  | [d1, d2, d3] => { results := [.lit (.bool false)], args := [d1, d2, d3] }
  | _ => none }
def DrawsSamplesWrongFalsely : Prop := drawsSamplesRow.holds Try.pinned (OpenSpec.ofChange drawsSamplesWrong)

/-- 'garmentlaw05.DrawsSkips': WHATEVER THE INPUT: true; the input reads as it did. -/
def drawsSkipsSpec : ChangeSpec := { name := "drawsSkips", fn := fun _ => fun
  | [d1, d2] => { results := [.lit (.bool true)], args := [d1, d2] }
  | _ => none }
def drawsSkipsRow : OpenClaim := { program := "ytgobcpfcekgcfaa", sum := "de7a267f96a0a0932d62488097b4b248aae4e222d8a1fa263326986ebee67424", func := "garment/garmentlaw05.DrawsSkips", spec := "drawsSkips", recurses := true, apart := false }
def DrawsSkipsSaid : Prop := drawsSkipsRow.holds Try.pinned (OpenSpec.ofChange drawsSkipsSpec)

/-- ITS FALSE NEIGHBOUR: 'it returns false'. Refute it at one input. -/
def drawsSkipsWrong : ChangeSpec := { name := "drawsSkips", fn := fun _ => fun
  | [d1, d2] => { results := [.lit (.bool false)], args := [d1, d2] }
  | _ => none }
def DrawsSkipsWrongFalsely : Prop := drawsSkipsRow.holds Try.pinned (OpenSpec.ofChange drawsSkipsWrong)

/-- 'garmentlaw05.DrawsSkip': WHATEVER THE INPUT: true; the input reads as it did. -/
def drawsSkipSpec : ChangeSpec := { name := "drawsSkip", fn := fun _ => fun
  | [d1, d2, d3] => { results := [.lit (.bool true)], args := [d1, d2, d3] }
  | _ => none }
def drawsSkipRow : OpenClaim := { program := "ytgobcpfcekgcfaa", sum := "de7a267f96a0a0932d62488097b4b248aae4e222d8a1fa263326986ebee67424", func := "garment/garmentlaw05.DrawsSkip", spec := "drawsSkip", recurses := true, apart := false }
def DrawsSkipSaid : Prop := drawsSkipRow.holds Try.pinned (OpenSpec.ofChange drawsSkipSpec)

/-- ITS FALSE NEIGHBOUR: 'it returns false'. Refute it at one input. -/
def drawsSkipWrong : ChangeSpec := { name := "drawsSkip", fn := fun _ => fun
  | [d1, d2, d3] => { results := [.lit (.bool false)], args := [d1, d2, d3] }
  | _ => none }
def DrawsSkipWrongFalsely : Prop := drawsSkipRow.holds Try.pinned (OpenSpec.ofChange drawsSkipWrong)

/-- 'garmentlaw05.DrawsPeriod': WHATEVER THE INPUT: true; the input reads as it did. -/
def drawsPeriodSpec : ChangeSpec := { name := "drawsPeriod", fn := fun _ => fun
  | [d1, d2] => { results := [.lit (.bool true)], args := [d1, d2] }
  | _ => none }
def drawsPeriodRow : OpenClaim := { program := "ytgobcpfcekgcfaa", sum := "de7a267f96a0a0932d62488097b4b248aae4e222d8a1fa263326986ebee67424", func := "garment/garmentlaw05.DrawsPeriod", spec := "drawsPeriod", recurses := true, apart := false }
def DrawsPeriodSaid : Prop := drawsPeriodRow.holds Try.pinned (OpenSpec.ofChange drawsPeriodSpec)

/-- ITS FALSE NEIGHBOUR: 'it returns false'. Refute it at one input. -/
def drawsPeriodWrong : ChangeSpec := { name := "drawsPeriod", fn := fun _ => fun
  | [d1, d2] => { results := [.lit (.bool false)], args := [d1, d2] }
  | _ => none }
def DrawsPeriodWrongFalsely : Prop := drawsPeriodRow.holds Try.pinned (OpenSpec.ofChange drawsPeriodWrong)

/-- 'garmentlaw05.DrawsPermutes': WHATEVER THE INPUT: true; the input reads as it did. -/
def drawsPermutesSpec : ChangeSpec := { name := "drawsPermutes", fn := fun _ => fun
  | [d1, d2] => { results := [.lit (.bool true)], args := [d1, d2] }
  | _ => none }
def drawsPermutesRow : OpenClaim := { program := "ytgobcpfcekgcfaa", sum := "de7a267f96a0a0932d62488097b4b248aae4e222d8a1fa263326986ebee67424", func := "garment/garmentlaw05.DrawsPermutes", spec := "drawsPermutes", recurses := true, apart := false }
def DrawsPermutesSaid : Prop := drawsPermutesRow.holds Try.pinned (OpenSpec.ofChange drawsPermutesSpec)

/-- ITS FALSE NEIGHBOUR: 'it returns false'. Refute it at one input. -/
def drawsPermutesWrong : ChangeSpec := { name := "drawsPermutes", fn := fun _ => fun
  | [d1, d2] => { results := [.lit (.bool false)], args := [d1, d2] }
  | _ => none }
def DrawsPermutesWrongFalsely : Prop := drawsPermutesRow.holds Try.pinned (OpenSpec.ofChange drawsPermutesWrong)

/-- 'garmentlaw05.DrawsSubsets': WHATEVER THE INPUT: true; the input reads as it did. -/
def drawsSubsetsSpec : ChangeSpec := { name := "drawsSubsets", fn := fun _ => fun
  | [d1, d2, d3] => { results := [.lit (.bool true)], args := [d1, d2, d3] }
  | _ => none }
def drawsSubsetsRow : OpenClaim := { program := "ytgobcpfcekgcfaa", sum := "de7a267f96a0a0932d62488097b4b248aae4e222d8a1fa263326986ebee67424", func := "garment/garmentlaw05.DrawsSubsets", spec := "drawsSubsets", recurses := true, apart := false }
def DrawsSubsetsSaid : Prop := drawsSubsetsRow.holds Try.pinned (OpenSpec.ofChange drawsSubsetsSpec)

/-- ITS FALSE NEIGHBOUR: 'it returns false'. Refute it at one input. -/
def drawsSubsetsWrong : ChangeSpec := { name := "drawsSubsets", fn := fun _ => fun
  | [d1, d2, d3] => { results := [.lit (.bool false)], args := [d1, d2, d3] }
  | _ => none }
def DrawsSubsetsWrongFalsely : Prop := drawsSubsetsRow.holds Try.pinned (OpenSpec.ofChange drawsSubsetsWrong)

/-- 'garmentlaw05.DrawsApart': WHATEVER THE INPUT: true; the input reads as it did. -/
def drawsApartSpec : ChangeSpec := { name := "drawsApart", fn := fun _ => fun
  | [d1, d2, d3] => { results := [.lit (.bool true)], args := [d1, d2, d3] }
  | _ => none }
def drawsApartRow : OpenClaim := { program := "ytgobcpfcekgcfaa", sum := "de7a267f96a0a0932d62488097b4b248aae4e222d8a1fa263326986ebee67424", func := "garment/garmentlaw05.DrawsApart", spec := "drawsApart", recurses := true, apart := false }
def DrawsApartSaid : Prop := drawsApartRow.holds Try.pinned (OpenSpec.ofChange drawsApartSpec)

/-- ITS FALSE NEIGHBOUR: 'it returns false'. Refute it at one input. -/
def drawsApartWrong : ChangeSpec := { name := "drawsApart", fn := fun _ => fun
  | [d1, d2, d3] => { results := [.lit (.bool false)], args := [d1, d2, d3] }
  | _ => none }
def DrawsApartWrongFalsely : Prop := drawsApartRow.holds Try.pinned (OpenSpec.ofChange drawsApartWrong)

/- THE SECOND FORM. 'bulk': how many values and letters a reading holds, each counted each time it is reached (what is shared counts as often as it is met; a slice's spare places count too). A statement '..UptoSaid' is the law's where the arguments, and the package variables that the reading takes, are together of bulk at most 1048576: NARROWER than '..Said'. Prove '..Said' where nothing that the law and all that it calls make is longer than what came in: it says more and counts as full. Else prove '..UptoSaid'. A law counts once. -/
mutual
def uptoBulk {H : Type} : DataW H → Nat
  | .lit (.string bytes) => bytes.length + 1
  | .lit _ => 1
  | .nil => 1
  | .ptr d => uptoBulk d + 1
  | .slice elems spare => uptoBulkAll elems + uptoBulkAll spare + 1
  | .agg parts => uptoBulkAll parts + 1
  | .iface _ d => uptoBulk d + 1
  | .map entries => uptoBulkEntries entries + 1
  | .held _ => 1
def uptoBulkAll {H : Type} : List (DataW H) → Nat
  | [] => 0
  | d :: r => uptoBulk d + uptoBulkAll r
def uptoBulkEntries {H : Type} : List (Lit × DataW H) → Nat
  | [] => 0
  | x :: r => uptoBulkEntry x + uptoBulkEntries r
def uptoBulkEntry {H : Type} : Lit × DataW H → Nat
  | (.string bytes, d) => bytes.length + uptoBulk d + 1
  | (_, d) => uptoBulk d + 1
 end
def uptoSmall : (H : Type) → List (DataW H) → Bool := fun _ ds => decide (uptoBulkAll ds ≤ 1048576)
def OpenSpec.upto (s : _root_.Go.ChangeSpec) : _root_.Go.OpenSpec := { _root_.Go.OpenSpec.ofChange s with cond := some uptoSmall }

/-- 'garmentlaw05.DrawsNext', WHERE WHAT IT READS IS OF BULK AT MOST 1048576: true; the input reads as it did. -/
def drawsNextUptoRow : OpenClaim := { program := "ytgobcpfcekgcfaa", sum := "de7a267f96a0a0932d62488097b4b248aae4e222d8a1fa263326986ebee67424", func := "garment/garmentlaw05.DrawsNext", spec := "drawsNext", recurses := true, apart := false, narrowed := true }
def DrawsNextUptoSaid : Prop := drawsNextUptoRow.holds Try.pinned (OpenSpec.upto drawsNextSpec)

/-- 'garmentlaw05.DrawsShuffles', WHERE WHAT IT READS IS OF BULK AT MOST 1048576: true; the input reads as it did. -/
def drawsShufflesUptoRow : OpenClaim := { program := "ytgobcpfcekgcfaa", sum := "de7a267f96a0a0932d62488097b4b248aae4e222d8a1fa263326986ebee67424", func := "garment/garmentlaw05.DrawsShuffles", spec := "drawsShuffles", recurses := true, apart := false, narrowed := true }
def DrawsShufflesUptoSaid : Prop := drawsShufflesUptoRow.holds Try.pinned (OpenSpec.upto drawsShufflesSpec)

/-- 'garmentlaw05.DrawsSamples', WHERE WHAT IT READS IS OF BULK AT MOST 1048576: true; the input reads as it did. -/
def drawsSamplesUptoRow : OpenClaim := { program := "ytgobcpfcekgcfaa", sum := "de7a267f96a0a0932d62488097b4b248aae4e222d8a1fa263326986ebee67424", func := "garment/garmentlaw05.DrawsSamples", spec := "drawsSamples", recurses := true, apart := false, narrowed := true }
def DrawsSamplesUptoSaid : Prop := drawsSamplesUptoRow.holds Try.pinned (OpenSpec.upto drawsSamplesSpec)

/-- 'garmentlaw05.DrawsSkips', WHERE WHAT IT READS IS OF BULK AT MOST 1048576: true; the input reads as it did. -/
def drawsSkipsUptoRow : OpenClaim := { program := "ytgobcpfcekgcfaa", sum := "de7a267f96a0a0932d62488097b4b248aae4e222d8a1fa263326986ebee67424", func := "garment/garmentlaw05.DrawsSkips", spec := "drawsSkips", recurses := true, apart := false, narrowed := true }
def DrawsSkipsUptoSaid : Prop := drawsSkipsUptoRow.holds Try.pinned (OpenSpec.upto drawsSkipsSpec)

/-- 'garmentlaw05.DrawsSkip', WHERE WHAT IT READS IS OF BULK AT MOST 1048576: true; the input reads as it did. -/
def drawsSkipUptoRow : OpenClaim := { program := "ytgobcpfcekgcfaa", sum := "de7a267f96a0a0932d62488097b4b248aae4e222d8a1fa263326986ebee67424", func := "garment/garmentlaw05.DrawsSkip", spec := "drawsSkip", recurses := true, apart := false, narrowed := true }
def DrawsSkipUptoSaid : Prop := drawsSkipUptoRow.holds Try.pinned (OpenSpec.upto drawsSkipSpec)

/-- 'garmentlaw05.DrawsPeriod', WHERE WHAT IT READS IS OF BULK AT MOST 1048576: true; the input reads as it did. -/
def drawsPeriodUptoRow : OpenClaim := { program := "ytgobcpfcekgcfaa", sum := "de7a267f96a0a0932d62488097b4b248aae4e222d8a1fa263326986ebee67424", func := "garment/garmentlaw05.DrawsPeriod", spec := "drawsPeriod", recurses := true, apart := false, narrowed := true }
def DrawsPeriodUptoSaid : Prop := drawsPeriodUptoRow.holds Try.pinned (OpenSpec.upto drawsPeriodSpec)

/-- 'garmentlaw05.DrawsPermutes', WHERE WHAT IT READS IS OF BULK AT MOST 1048576: true; the input reads as it did. -/
def drawsPermutesUptoRow : OpenClaim := { program := "ytgobcpfcekgcfaa", sum := "de7a267f96a0a0932d62488097b4b248aae4e222d8a1fa263326986ebee67424", func := "garment/garmentlaw05.DrawsPermutes", spec := "drawsPermutes", recurses := true, apart := false, narrowed := true }
def DrawsPermutesUptoSaid : Prop := drawsPermutesUptoRow.holds Try.pinned (OpenSpec.upto drawsPermutesSpec)

/-- 'garmentlaw05.DrawsSubsets', WHERE WHAT IT READS IS OF BULK AT MOST 1048576: true; the input reads as it did. -/
def drawsSubsetsUptoRow : OpenClaim := { program := "ytgobcpfcekgcfaa", sum := "de7a267f96a0a0932d62488097b4b248aae4e222d8a1fa263326986ebee67424", func := "garment/garmentlaw05.DrawsSubsets", spec := "drawsSubsets", recurses := true, apart := false, narrowed := true }
def DrawsSubsetsUptoSaid : Prop := drawsSubsetsUptoRow.holds Try.pinned (OpenSpec.upto drawsSubsetsSpec)

/-- 'garmentlaw05.DrawsApart', WHERE WHAT IT READS IS OF BULK AT MOST 1048576: true; the input reads as it did. -/
def drawsApartUptoRow : OpenClaim := { program := "ytgobcpfcekgcfaa", sum := "de7a267f96a0a0932d62488097b4b248aae4e222d8a1fa263326986ebee67424", func := "garment/garmentlaw05.DrawsApart", spec := "drawsApart", recurses := true, apart := false, narrowed := true }
def DrawsApartUptoSaid : Prop := drawsApartUptoRow.holds Try.pinned (OpenSpec.upto drawsApartSpec)

end Rows
end Go.Proofs.Ytgobcpfcekgcfaa
