/-
  No cell of these rows narrows 'for every input' (looked for: loops, veiled, ifaces, maps, wideKeys, modest, calm, conditions, laid).
  DERIVED. THE GIVEN ROWS OF THIS SEAT. 9 by the template 'for every input the law returns true; each argument reads behind the call as it read before'; 0 by the template 'total and deterministic' (their statements: YtihdifmachfdbaaTotals.lean).
  GIVEN WITH THE SEED: the statements are not yours to turn. If you find one false, say at which input.
  Laid BY PROGRAM, IN A SANDBOX (cutbox-rows.mjs): the forced cells as the released guide's own fill.sh prints them over the translation c655cc5b089e720b… (all of the seat's roots in one cut). By AI agents, Wed Nov 11 2026. No macro, syntax, notation, axiom, sorry.
-/
import Derived.Test.YtihdifmachfdbaaChecked
import GoSem.Claim
import GoSem.ClaimJoined
import GoSem.ClaimMapViews
import Derived.JoinedTies
import Derived.KernelRfl
namespace Go.Proofs.Ytihdifmachfdbaa
/- THE CELL 'sum', in the pinned program and in every row, IS THE sha256 OF THE DUMP (.gsa) THAT YtihdifmachfdbaaProg.lean LOADS. Nothing in Lean hashes anything: it is a label: what it is worth is what the hold of that sum in a sandbox is worth. -/
noncomputable def Try.pinned : Pinned := { name := "ytihdifmachfdbaa", sum := "c655cc5b089e720b8beded0fc3b55fd51aeb5f5015f69806c2cb312c3b08a9c6", checked := Try.checked }
namespace Rows
def none {H : Type} : Left H := { results := [], args := [] }

/-- 'garmentlaw53.SamplingChecks': WHATEVER THE INPUT: true; the input reads as it did. -/
def samplingChecksSpec : ChangeSpec := { name := "samplingChecks", fn := fun _ => fun
  | [d1, d2, d3] => { results := [.lit (.bool true)], args := [d1, d2, d3] }
  | _ => none }
def samplingChecksRow : OpenClaim := { program := "ytihdifmachfdbaa", sum := "c655cc5b089e720b8beded0fc3b55fd51aeb5f5015f69806c2cb312c3b08a9c6", func := "garment/garmentlaw53.SamplingChecks", spec := "samplingChecks", recurses := true, apart := false }
def SamplingChecksSaid : Prop := samplingChecksRow.holds Try.pinned (OpenSpec.ofChange samplingChecksSpec)

/-- ITS FALSE NEIGHBOUR: 'it returns false'. Refute it at one input. -/
def samplingChecksWrong : ChangeSpec := { name := "samplingChecks", fn := fun _ => fun
  | [d1, d2, d3] => { results := [.lit (.bool false)], args := [d1, d2, d3] }
  | _ => none }
def SamplingChecksWrongFalsely : Prop := samplingChecksRow.holds Try.pinned (OpenSpec.ofChange samplingChecksWrong)

/-- 'garmentlaw53.SamplingExactly': WHATEVER THE INPUT: true; the input reads as it did. -/
def samplingExactlySpec : ChangeSpec := { name := "samplingExactly", fn := fun _ => fun
  | [d1, d2] => { results := [.lit (.bool true)], args := [d1, d2] }
  | _ => none }
def samplingExactlyRow : OpenClaim := { program := "ytihdifmachfdbaa", sum := "c655cc5b089e720b8beded0fc3b55fd51aeb5f5015f69806c2cb312c3b08a9c6", func := "garment/garmentlaw53.SamplingExactly", spec := "samplingExactly", recurses := true, apart := false }
def SamplingExactlySaid : Prop := samplingExactlyRow.holds Try.pinned (OpenSpec.ofChange samplingExactlySpec)

/-- ITS FALSE NEIGHBOUR: 'it returns false'. Refute it at one input. -/
def samplingExactlyWrong : ChangeSpec := { name := "samplingExactly", fn := fun _ => fun
  | [d1, d2] => { results := [.lit (.bool false)], args := [d1, d2] }
  | _ => none }
def SamplingExactlyWrongFalsely : Prop := samplingExactlyRow.holds Try.pinned (OpenSpec.ofChange samplingExactlyWrong)

/-- 'garmentlaw53.SamplingDraws': WHATEVER THE INPUT: true; the input reads as it did. -/
def samplingDrawsSpec : ChangeSpec := { name := "samplingDraws", fn := fun _ => fun
  | [d1, d2, d3] => { results := [.lit (.bool true)], args := [d1, d2, d3] }
  | _ => none }
def samplingDrawsRow : OpenClaim := { program := "ytihdifmachfdbaa", sum := "c655cc5b089e720b8beded0fc3b55fd51aeb5f5015f69806c2cb312c3b08a9c6", func := "garment/garmentlaw53.SamplingDraws", spec := "samplingDraws", recurses := true, apart := false }
def SamplingDrawsSaid : Prop := samplingDrawsRow.holds Try.pinned (OpenSpec.ofChange samplingDrawsSpec)

/-- ITS FALSE NEIGHBOUR: 'it returns false'. Refute it at one input. -/
def samplingDrawsWrong : ChangeSpec := { name := "samplingDraws", fn := fun _ => fun
  | [d1, d2, d3] => { results := [.lit (.bool false)], args := [d1, d2, d3] }
  | _ => none }
def SamplingDrawsWrongFalsely : Prop := samplingDrawsRow.holds Try.pinned (OpenSpec.ofChange samplingDrawsWrong)

/-- 'garmentlaw53.SamplingSamples': WHATEVER THE INPUT: true; the input reads as it did. -/
def samplingSamplesSpec : ChangeSpec := { name := "samplingSamples", fn := fun _ => fun
  | [d1, d2, d3] => { results := [.lit (.bool true)], args := [d1, d2, d3] }
  | _ => none }
def samplingSamplesRow : OpenClaim := { program := "ytihdifmachfdbaa", sum := "c655cc5b089e720b8beded0fc3b55fd51aeb5f5015f69806c2cb312c3b08a9c6", func := "garment/garmentlaw53.SamplingSamples", spec := "samplingSamples", recurses := true, apart := false }
def SamplingSamplesSaid : Prop := samplingSamplesRow.holds Try.pinned (OpenSpec.ofChange samplingSamplesSpec)

/-- ITS FALSE NEIGHBOUR: 'it returns false'. Refute it at one input. -/
def samplingSamplesWrong : ChangeSpec := { name := "samplingSamples", fn := fun _ => fun
  | [d1, d2, d3] => { results := [.lit (.bool false)], args := [d1, d2, d3] }
  | _ => none }
def SamplingSamplesWrongFalsely : Prop := samplingSamplesRow.holds Try.pinned (OpenSpec.ofChange samplingSamplesWrong)

/-- 'garmentlaw53.SamplingMonotone': WHATEVER THE INPUT: true; the input reads as it did. -/
def samplingMonotoneSpec : ChangeSpec := { name := "samplingMonotone", fn := fun _ => fun
  | [d1, d2] => { results := [.lit (.bool true)], args := [d1, d2] }
  | _ => none }
def samplingMonotoneRow : OpenClaim := { program := "ytihdifmachfdbaa", sum := "c655cc5b089e720b8beded0fc3b55fd51aeb5f5015f69806c2cb312c3b08a9c6", func := "garment/garmentlaw53.SamplingMonotone", spec := "samplingMonotone", recurses := true, apart := false }
def SamplingMonotoneSaid : Prop := samplingMonotoneRow.holds Try.pinned (OpenSpec.ofChange samplingMonotoneSpec)

/-- ITS FALSE NEIGHBOUR: 'it returns false'. Refute it at one input. -/
def samplingMonotoneWrong : ChangeSpec := { name := "samplingMonotone", fn := fun _ => fun
  | [d1, d2] => { results := [.lit (.bool false)], args := [d1, d2] }
  | _ => none }
def SamplingMonotoneWrongFalsely : Prop := samplingMonotoneRow.holds Try.pinned (OpenSpec.ofChange samplingMonotoneWrong)

/-- 'garmentlaw53.SamplingExchange': WHATEVER THE INPUT: true; the input reads as it did. -/
def samplingExchangeSpec : ChangeSpec := { name := "samplingExchange", fn := fun _ => fun
  | [d1, d2] => { results := [.lit (.bool true)], args := [d1, d2] }
  | _ => none }
def samplingExchangeRow : OpenClaim := { program := "ytihdifmachfdbaa", sum := "c655cc5b089e720b8beded0fc3b55fd51aeb5f5015f69806c2cb312c3b08a9c6", func := "garment/garmentlaw53.SamplingExchange", spec := "samplingExchange", recurses := true, apart := false }
def SamplingExchangeSaid : Prop := samplingExchangeRow.holds Try.pinned (OpenSpec.ofChange samplingExchangeSpec)

/-- ITS FALSE NEIGHBOUR: 'it returns false'. Refute it at one input. -/
def samplingExchangeWrong : ChangeSpec := { name := "samplingExchange", fn := fun _ => fun
  | [d1, d2] => { results := [.lit (.bool false)], args := [d1, d2] }
  | _ => none }
def SamplingExchangeWrongFalsely : Prop := samplingExchangeRow.holds Try.pinned (OpenSpec.ofChange samplingExchangeWrong)

/-- 'garmentlaw53.SamplingCounts': WHATEVER THE INPUT: true; the input reads as it did. -/
def samplingCountsSpec : ChangeSpec := { name := "samplingCounts", fn := fun _ => fun
  | [d1, d2] => { results := [.lit (.bool true)], args := [d1, d2] }
  | _ => none }
def samplingCountsRow : OpenClaim := { program := "ytihdifmachfdbaa", sum := "c655cc5b089e720b8beded0fc3b55fd51aeb5f5015f69806c2cb312c3b08a9c6", func := "garment/garmentlaw53.SamplingCounts", spec := "samplingCounts", recurses := true, apart := false }
def SamplingCountsSaid : Prop := samplingCountsRow.holds Try.pinned (OpenSpec.ofChange samplingCountsSpec)

/-- ITS FALSE NEIGHBOUR: 'it returns false'. Refute it at one input. -/
def samplingCountsWrong : ChangeSpec := { name := "samplingCounts", fn := fun _ => fun
  | [d1, d2] => { results := [.lit (.bool false)], args := [d1, d2] }
  | _ => none }
def SamplingCountsWrongFalsely : Prop := samplingCountsRow.holds Try.pinned (OpenSpec.ofChange samplingCountsWrong)

/-- 'garmentlaw53.SamplingSums': WHATEVER THE INPUT: true; the input reads as it did. -/
def samplingSumsSpec : ChangeSpec := { name := "samplingSums", fn := fun _ => fun
  | [d1, d2] => { results := [.lit (.bool true)], args := [d1, d2] }
  | _ => none }
def samplingSumsRow : OpenClaim := { program := "ytihdifmachfdbaa", sum := "c655cc5b089e720b8beded0fc3b55fd51aeb5f5015f69806c2cb312c3b08a9c6", func := "garment/garmentlaw53.SamplingSums", spec := "samplingSums", recurses := true, apart := false }
def SamplingSumsSaid : Prop := samplingSumsRow.holds Try.pinned (OpenSpec.ofChange samplingSumsSpec)

/-- ITS FALSE NEIGHBOUR: 'it returns false'. Refute it at one input. -/
def samplingSumsWrong : ChangeSpec := { name := "samplingSums", fn := fun _ => fun
  | [d1, d2] => { results := [.lit (.bool false)], args := [d1, d2] }
  | _ => none }
def SamplingSumsWrongFalsely : Prop := samplingSumsRow.holds Try.pinned (OpenSpec.ofChange samplingSumsWrong)

/-- 'garmentlaw53.SamplingMean': WHATEVER THE INPUT: true; the input reads as it did. -/
def samplingMeanSpec : ChangeSpec := { name := "samplingMean", fn := fun _ => fun
  | [d1, d2] => { results := [.lit (.bool true)], args := [d1, d2] }
  | _ => none }
def samplingMeanRow : OpenClaim := { program := "ytihdifmachfdbaa", sum := "c655cc5b089e720b8beded0fc3b55fd51aeb5f5015f69806c2cb312c3b08a9c6", func := "garment/garmentlaw53.SamplingMean", spec := "samplingMean", recurses := true, apart := false }
def SamplingMeanSaid : Prop := samplingMeanRow.holds Try.pinned (OpenSpec.ofChange samplingMeanSpec)

/-- ITS FALSE NEIGHBOUR: 'it returns false'. Refute it at one input. -/
def samplingMeanWrong : ChangeSpec := { name := "samplingMean", fn := fun _ => fun
  | [d1, d2] => { results := [.lit (.bool false)], args := [d1, d2] }
  | _ => none }
def SamplingMeanWrongFalsely : Prop := samplingMeanRow.holds Try.pinned (OpenSpec.ofChange samplingMeanWrong)

/- THE SECOND FORM. 'bulk': how many values and letters a reading holds, each counted each time it is reached (what is shared counts as often as it is met; a slice's spare places count too). A statement '..UptoSaid' is the law's where the arguments, and the package variables that the reading takes, are together of bulk at most 1048576: NARROWER than '..Said'. Prove '..Said' where nothing that the law and all that it calls make is longer than what came in: it says more and counts as full. Else prove '..UptoSaid'. A law counts once. -/
mutual
def uptoBulk {H : Type} : DataW H → Nat
  | .lit (.string bytes) => bytes.length + 1
  | .lit _ => 1
  | .nil => 1
  | .ptr d => uptoBulk d + 1
  | .slice elems spare => uptoBulkAll elems + uptoBulkAll spare + 1
  | .agg parts => uptoBulkAll parts + 1
  | .iface _ d => uptoBulk d + 1
  | .map entries => uptoBulkEntries entries + 1
  | .held _ => 1
def uptoBulkAll {H : Type} : List (DataW H) → Nat
  | [] => 0
  | d :: r => uptoBulk d + uptoBulkAll r
def uptoBulkEntries {H : Type} : List (Lit × DataW H) → Nat
  | [] => 0
  | x :: r => uptoBulkEntry x + uptoBulkEntries r
def uptoBulkEntry {H : Type} : Lit × DataW H → Nat
  | (.string bytes, d) => bytes.length + uptoBulk d + 1
  | (_, d) => uptoBulk d + 1
 end
def uptoSmall : (H : Type) → List (DataW H) → Bool := fun _ ds => decide (uptoBulkAll ds ≤ 1048576)
def OpenSpec.upto (s : _root_.Go.ChangeSpec) : _root_.Go.OpenSpec := { _root_.Go.OpenSpec.ofChange s with cond := some uptoSmall }

/-- 'garmentlaw53.SamplingChecks', WHERE WHAT IT READS IS OF BULK AT MOST 1048576: true; the input reads as it did. -/
def samplingChecksUptoRow : OpenClaim := { program := "ytihdifmachfdbaa", sum := "c655cc5b089e720b8beded0fc3b55fd51aeb5f5015f69806c2cb312c3b08a9c6", func := "garment/garmentlaw53.SamplingChecks", spec := "samplingChecks", recurses := true, apart := false, narrowed := true }
def SamplingChecksUptoSaid : Prop := samplingChecksUptoRow.holds Try.pinned (OpenSpec.upto samplingChecksSpec)

/-- 'garmentlaw53.SamplingExactly', WHERE WHAT IT READS IS OF BULK AT MOST 1048576: true; the input reads as it did. -/
def samplingExactlyUptoRow : OpenClaim := { program := "ytihdifmachfdbaa", sum := "c655cc5b089e720b8beded0fc3b55fd51aeb5f5015f69806c2cb312c3b08a9c6", func := "garment/garmentlaw53.SamplingExactly", spec := "samplingExactly", recurses := true, apart := false, narrowed := true }
def SamplingExactlyUptoSaid : Prop := samplingExactlyUptoRow.holds Try.pinned (OpenSpec.upto samplingExactlySpec)

/-- 'garmentlaw53.SamplingDraws', WHERE WHAT IT READS IS OF BULK AT MOST 1048576: true; the input reads as it did. -/
def samplingDrawsUptoRow : OpenClaim := { program := "ytihdifmachfdbaa", sum := "c655cc5b089e720b8beded0fc3b55fd51aeb5f5015f69806c2cb312c3b08a9c6", func := "garment/garmentlaw53.SamplingDraws", spec := "samplingDraws", recurses := true, apart := false, narrowed := true }
def SamplingDrawsUptoSaid : Prop := samplingDrawsUptoRow.holds Try.pinned (OpenSpec.upto samplingDrawsSpec)

/-- 'garmentlaw53.SamplingSamples', WHERE WHAT IT READS IS OF BULK AT MOST 1048576: true; the input reads as it did. -/
def samplingSamplesUptoRow : OpenClaim := { program := "ytihdifmachfdbaa", sum := "c655cc5b089e720b8beded0fc3b55fd51aeb5f5015f69806c2cb312c3b08a9c6", func := "garment/garmentlaw53.SamplingSamples", spec := "samplingSamples", recurses := true, apart := false, narrowed := true }
def SamplingSamplesUptoSaid : Prop := samplingSamplesUptoRow.holds Try.pinned (OpenSpec.upto samplingSamplesSpec)

/-- 'garmentlaw53.SamplingMonotone', WHERE WHAT IT READS IS OF BULK AT MOST 1048576: true; the input reads as it did. -/
def samplingMonotoneUptoRow : OpenClaim := { program := "ytihdifmachfdbaa", sum := "c655cc5b089e720b8beded0fc3b55fd51aeb5f5015f69806c2cb312c3b08a9c6", func := "garment/garmentlaw53.SamplingMonotone", spec := "samplingMonotone", recurses := true, apart := false, narrowed := true }
def SamplingMonotoneUptoSaid : Prop := samplingMonotoneUptoRow.holds Try.pinned (OpenSpec.upto samplingMonotoneSpec)

/-- 'garmentlaw53.SamplingExchange', WHERE WHAT IT READS IS OF BULK AT MOST 1048576: true; the input reads as it did. -/
def samplingExchangeUptoRow : OpenClaim := { program := "ytihdifmachfdbaa", sum := "c655cc5b089e720b8beded0fc3b55fd51aeb5f5015f69806c2cb312c3b08a9c6", func := "garment/garmentlaw53.SamplingExchange", spec := "samplingExchange", recurses := true, apart := false, narrowed := true }
def SamplingExchangeUptoSaid : Prop := samplingExchangeUptoRow.holds Try.pinned (OpenSpec.upto samplingExchangeSpec)

/-- 'garmentlaw53.SamplingCounts', WHERE WHAT IT READS IS OF BULK AT MOST 1048576: true; the input reads as it did. -/
def samplingCountsUptoRow : OpenClaim := { program := "ytihdifmachfdbaa", sum := "c655cc5b089e720b8beded0fc3b55fd51aeb5f5015f69806c2cb312c3b08a9c6", func := "garment/garmentlaw53.SamplingCounts", spec := "samplingCounts", recurses := true, apart := false, narrowed := true }
def SamplingCountsUptoSaid : Prop := samplingCountsUptoRow.holds Try.pinned (OpenSpec.upto samplingCountsSpec)

/-- 'garmentlaw53.SamplingSums', WHERE WHAT IT READS IS OF BULK AT MOST 1048576: true; the input reads as it did. -/
def samplingSumsUptoRow : OpenClaim := { program := "ytihdifmachfdbaa", sum := "c655cc5b089e720b8beded0fc3b55fd51aeb5f5015f69806c2cb312c3b08a9c6", func := "garment/garmentlaw53.SamplingSums", spec := "samplingSums", recurses := true, apart := false, narrowed := true }
def SamplingSumsUptoSaid : Prop := samplingSumsUptoRow.holds Try.pinned (OpenSpec.upto samplingSumsSpec)

/-- 'garmentlaw53.SamplingMean', WHERE WHAT IT READS IS OF BULK AT MOST 1048576: true; the input reads as it did. -/
def samplingMeanUptoRow : OpenClaim := { program := "ytihdifmachfdbaa", sum := "c655cc5b089e720b8beded0fc3b55fd51aeb5f5015f69806c2cb312c3b08a9c6", func := "garment/garmentlaw53.SamplingMean", spec := "samplingMean", recurses := true, apart := false, narrowed := true }
def SamplingMeanUptoSaid : Prop := samplingMeanUptoRow.holds Try.pinned (OpenSpec.upto samplingMeanSpec)

end Rows
end Go.Proofs.Ytihdifmachfdbaa
