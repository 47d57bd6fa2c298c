/- A part of the proof: the walks of this law's functions. -/
import Derived.Test.YtihdifmachfdbaaSP1
namespace Go.Sim
open Go Go.Proofs
set_option maxRecDepth 10000
theorem same1 : CS Try.prog 25 [.row TI64 [0, 1, 2], .row TI64 [0, 1, 2]] .tt := ccall_run 4000 (by kernel_rfl)
end Go.Sim
