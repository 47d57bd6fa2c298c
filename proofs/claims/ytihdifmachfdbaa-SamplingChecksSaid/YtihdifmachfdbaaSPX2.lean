/- A part of the proof: the walks of this law's functions. -/
import Derived.Test.YtihdifmachfdbaaSP1
namespace Go.Sim
open Go Go.Proofs
set_option maxRecDepth 10000
theorem exa1 : CS Try.prog 18 [planV 3 1, .int .i64 5, .int .i64 2, .int .i64 2] (.tup [ratV false [3] [10], .int .i64 0]) := ccall_run 4000 (by kernel_rfl)
end Go.Sim
