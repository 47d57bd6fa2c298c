/- A part of the proof: the walks of this law's functions. -/
import Derived.Test.YtihdifmachfdbaaSP1
namespace Go.Sim
open Go Go.Proofs
set_option maxRecDepth 10000
theorem text2 : CS Try.prog 32 [ratV false [3] [10]] (.str ⟨#[51, 47, 49, 48]⟩) := ccall_run 4000 (by kernel_rfl)
end Go.Sim
