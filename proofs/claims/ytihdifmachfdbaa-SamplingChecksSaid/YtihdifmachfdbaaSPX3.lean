/- A part of the proof: the walks of this law's functions. -/
import Derived.Test.YtihdifmachfdbaaSP1
namespace Go.Sim
open Go Go.Proofs
set_option maxRecDepth 10000
theorem acc2 : CS Try.prog 20 [planV 2 0, .int .i64 4, .int .i64 2] (.tup [ratV false [1] [6], .int .i64 0]) := ccall_run 4000 (by kernel_rfl)
end Go.Sim
