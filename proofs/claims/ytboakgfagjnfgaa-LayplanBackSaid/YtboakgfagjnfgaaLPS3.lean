/- A part of the proof: the walks of this law's functions. -/
import Derived.Test.YtboakgfagjnfgaaLP2
namespace Go.Sim
open Go Go.Proofs
set_option maxRecDepth 10000
theorem solve3 : CS Try.prog 10 [.row TI64 [6, 3], .row TMix two, .int .i64 1, .int .i64 10] (.tup [.row TI64 [3, 2], .int .i64 0]) := ccall_run 4000 (by kernel_rfl)
end Go.Sim
