/- A part of the proof: the walks of this law's functions. -/
import Derived.Test.YtihdifmachfdbaaSP1
namespace Go.Sim
open Go Go.Proofs
set_option maxRecDepth 10000
theorem draw1 : CS Try.prog 23 [.int .u64 7, planV 3 1, .int .i64 3] (.tup [.int .u64 17628806926561717905, .row TI64 [0, 1, 2], .int .i64 0]) := ccall_run 4000 (by kernel_rfl)
end Go.Sim
