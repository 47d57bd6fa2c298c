/- A part of the proof: the walks of this law's functions. -/
import Derived.Test.YtihdifmachfdbaaSimAH
import Derived.KernelRfl
import Derived.Test.YtihdifmachfdbaaProg
set_option autoImplicit false
set_option maxRecDepth 4000
namespace Go.Sim
open Go Go.Proofs
def ti1 : TI := ⟨.fn, 1, [.cv .nilfn], 8⟩
theorem tc1 : checkT Try.prog 1 ti1 := ⟨by kernel_rfl, by kernel_rfl, by kernel_rfl, by kernel_rfl⟩
def ti2 : TI := ⟨.int .i64, 1, [.int .i64 0], 8⟩
theorem tc2 : checkT Try.prog 2 ti2 := ⟨by kernel_rfl, by kernel_rfl, by kernel_rfl, by kernel_rfl⟩
def ti3 : TI := ⟨.int .i64, 1, [.int .i64 0], 8⟩
theorem tc3 : checkT Try.prog 3 ti3 := ⟨by kernel_rfl, by kernel_rfl, by kernel_rfl, by kernel_rfl⟩
def ti4 : TI := ⟨.bool, 1, [.ff], 1⟩
theorem tc4 : checkT Try.prog 4 ti4 := ⟨by kernel_rfl, by kernel_rfl, by kernel_rfl, by kernel_rfl⟩
def ti5 : TI := ⟨.int .u8, 1, [.int .u8 0], 1⟩
theorem tc5 : checkT Try.prog 5 ti5 := ⟨by kernel_rfl, by kernel_rfl, by kernel_rfl, by kernel_rfl⟩
def ti9 : TI := ⟨.str, 1, [.str ByteArray.empty], 16⟩
theorem tc9 : checkT Try.prog 9 ti9 := ⟨by kernel_rfl, by kernel_rfl, by kernel_rfl, by kernel_rfl⟩
def ti23 : TI := ⟨.struct [(3, 0), (3, 1)], 2, [.int .i64 0, .int .i64 0], 16⟩
theorem tc23 : checkT Try.prog 23 ti23 := ⟨by kernel_rfl, by kernel_rfl, by kernel_rfl, by kernel_rfl⟩
def ti24 : TI := ⟨.int .i64, 1, [.int .i64 0], 8⟩
theorem tc24 : checkT Try.prog 24 ti24 := ⟨by kernel_rfl, by kernel_rfl, by kernel_rfl, by kernel_rfl⟩
def ti34 : TI := ⟨.slice 80, 1, [.cv .nilsl], 24⟩
theorem tc34 : checkT Try.prog 34 ti34 := ⟨by kernel_rfl, by kernel_rfl, by kernel_rfl, by kernel_rfl⟩
def ti36 : TI := ⟨.struct [(4, 0), (34, 1)], 2, [.ff, .cv .nilsl], 32⟩
theorem tc36 : checkT Try.prog 36 ti36 := ⟨by kernel_rfl, by kernel_rfl, by kernel_rfl, by kernel_rfl⟩
def ti38 : TI := ⟨.struct [(36, 0), (34, 2)], 3, [.ff, .cv .nilsl, .cv .nilsl], 56⟩
theorem tc38 : checkT Try.prog 38 ti38 := ⟨by kernel_rfl, by kernel_rfl, by kernel_rfl, by kernel_rfl⟩
def ti44 : TI := ⟨.int .u64, 1, [.int .u64 0], 8⟩
theorem tc44 : checkT Try.prog 44 ti44 := ⟨by kernel_rfl, by kernel_rfl, by kernel_rfl, by kernel_rfl⟩
def ti45 : TI := ⟨.int .u64, 1, [.int .u64 0], 8⟩
theorem tc45 : checkT Try.prog 45 ti45 := ⟨by kernel_rfl, by kernel_rfl, by kernel_rfl, by kernel_rfl⟩
def ti46 : TI := ⟨.slice 3, 1, [.cv .nilsl], 24⟩
theorem tc46 : checkT Try.prog 46 ti46 := ⟨by kernel_rfl, by kernel_rfl, by kernel_rfl, by kernel_rfl⟩
def ti53 : TI := ⟨.int .u64, 1, [.int .u64 0], 8⟩
theorem tc53 : checkT Try.prog 53 ti53 := ⟨by kernel_rfl, by kernel_rfl, by kernel_rfl, by kernel_rfl⟩
def ti80 : TI := ⟨.int .u32, 1, [.int .u32 0], 4⟩
theorem tc80 : checkT Try.prog 80 ti80 := ⟨by kernel_rfl, by kernel_rfl, by kernel_rfl, by kernel_rfl⟩
def ti95 : TI := ⟨.slice 5, 1, [.cv .nilsl], 24⟩
theorem tc95 : checkT Try.prog 95 ti95 := ⟨by kernel_rfl, by kernel_rfl, by kernel_rfl, by kernel_rfl⟩
def ti106 : TI := ⟨.int .i64, 1, [.int .i64 0], 8⟩
theorem tc106 : checkT Try.prog 106 ti106 := ⟨by kernel_rfl, by kernel_rfl, by kernel_rfl, by kernel_rfl⟩
def ti117 : TI := ⟨.struct [(44, 0), (44, 1)], 2, [.int .u64 0, .int .u64 0], 16⟩
theorem tc117 : checkT Try.prog 117 ti117 := ⟨by kernel_rfl, by kernel_rfl, by kernel_rfl, by kernel_rfl⟩
def ti120 : TI := ⟨.int .u64, 1, [.int .u64 0], 8⟩
theorem tc120 : checkT Try.prog 120 ti120 := ⟨by kernel_rfl, by kernel_rfl, by kernel_rfl, by kernel_rfl⟩
def ti124 : TI := ⟨.ptr 3, 1, [.cv .nilptr], 8⟩
theorem tc124 : checkT Try.prog 124 ti124 := ⟨by kernel_rfl, by kernel_rfl, by kernel_rfl, by kernel_rfl⟩
def ti127 : TI := ⟨.ptr 120, 1, [.cv .nilptr], 8⟩
theorem tc127 : checkT Try.prog 127 ti127 := ⟨by kernel_rfl, by kernel_rfl, by kernel_rfl, by kernel_rfl⟩
def tab : Tab := [(1, ti1), (2, ti2), (3, ti3), (4, ti4), (5, ti5), (9, ti9), (23, ti23), (24, ti24), (34, ti34), (36, ti36), (38, ti38), (44, ti44), (45, ti45), (46, ti46), (53, ti53), (80, ti80), (95, ti95), (106, ti106), (117, ti117), (120, ti120), (124, ti124), (127, ti127)]
theorem tabok : TabOK Try.prog tab := tabOK_cons tc1 (tabOK_cons tc2 (tabOK_cons tc3 (tabOK_cons tc4 (tabOK_cons tc5 (tabOK_cons tc9 (tabOK_cons tc23 (tabOK_cons tc24 (tabOK_cons tc34 (tabOK_cons tc36 (tabOK_cons tc38 (tabOK_cons tc44 (tabOK_cons tc45 (tabOK_cons tc46 (tabOK_cons tc53 (tabOK_cons tc80 (tabOK_cons tc95 (tabOK_cons tc106 (tabOK_cons tc117 (tabOK_cons tc120 (tabOK_cons tc124 (tabOK_cons tc127 (tabOK_nil))))))))))))))))))))))
end Go.Sim
