/- A part of the proof: the walks of this law's functions. -/
import Derived.Test.YtboakgfagjnfgaaSimAH
import Derived.KernelRfl
import Derived.Test.YtboakgfagjnfgaaProg
set_option autoImplicit false
set_option maxRecDepth 4000
namespace Go.Sim
open Go Go.Proofs
def ti1 : TI := ⟨.fn, 1, [.cv .nilfn], 8⟩
theorem tc1 : checkT Try.prog 1 ti1 := ⟨by kernel_rfl, by kernel_rfl, by kernel_rfl, by kernel_rfl⟩
def ti2 : TI := ⟨.int .i64, 1, [.int .i64 0], 8⟩
theorem tc2 : checkT Try.prog 2 ti2 := ⟨by kernel_rfl, by kernel_rfl, by kernel_rfl, by kernel_rfl⟩
def ti3 : TI := ⟨.int .i64, 1, [.int .i64 0], 8⟩
theorem tc3 : checkT Try.prog 3 ti3 := ⟨by kernel_rfl, by kernel_rfl, by kernel_rfl, by kernel_rfl⟩
def ti4 : TI := ⟨.bool, 1, [.ff], 1⟩
theorem tc4 : checkT Try.prog 4 ti4 := ⟨by kernel_rfl, by kernel_rfl, by kernel_rfl, by kernel_rfl⟩
def ti5 : TI := ⟨.int .u8, 1, [.int .u8 0], 1⟩
theorem tc5 : checkT Try.prog 5 ti5 := ⟨by kernel_rfl, by kernel_rfl, by kernel_rfl, by kernel_rfl⟩
def ti6 : TI := ⟨.int .u8, 1, [.int .u8 0], 1⟩
theorem tc6 : checkT Try.prog 6 ti6 := ⟨by kernel_rfl, by kernel_rfl, by kernel_rfl, by kernel_rfl⟩
def ti7 : TI := ⟨.struct [(2, 0), (3, 1), (4, 2), (6, 3)], 4, [.int .i64 0, .int .i64 0, .ff, .int .u8 0], 24⟩
theorem tc7 : checkT Try.prog 7 ti7 := ⟨by kernel_rfl, by kernel_rfl, by kernel_rfl, by kernel_rfl⟩
def ti8 : TI := ⟨.struct [(2, 0), (3, 1), (4, 2), (6, 3)], 4, [.int .i64 0, .int .i64 0, .ff, .int .u8 0], 24⟩
theorem tc8 : checkT Try.prog 8 ti8 := ⟨by kernel_rfl, by kernel_rfl, by kernel_rfl, by kernel_rfl⟩
def ti9 : TI := ⟨.str, 1, [.str ByteArray.empty], 16⟩
theorem tc9 : checkT Try.prog 9 ti9 := ⟨by kernel_rfl, by kernel_rfl, by kernel_rfl, by kernel_rfl⟩
def ti22 : TI := ⟨.slice 3, 1, [.cv .nilsl], 24⟩
theorem tc22 : checkT Try.prog 22 ti22 := ⟨by kernel_rfl, by kernel_rfl, by kernel_rfl, by kernel_rfl⟩
def ti24 : TI := ⟨.struct [(22, 0), (3, 1), (3, 2)], 3, [.cv .nilsl, .int .i64 0, .int .i64 0], 40⟩
theorem tc24 : checkT Try.prog 24 ti24 := ⟨by kernel_rfl, by kernel_rfl, by kernel_rfl, by kernel_rfl⟩
def ti25 : TI := ⟨.slice 41, 1, [.cv .nilsl], 24⟩
theorem tc25 : checkT Try.prog 25 ti25 := ⟨by kernel_rfl, by kernel_rfl, by kernel_rfl, by kernel_rfl⟩
def ti28 : TI := ⟨.int .i64, 1, [.int .i64 0], 8⟩
theorem tc28 : checkT Try.prog 28 ti28 := ⟨by kernel_rfl, by kernel_rfl, by kernel_rfl, by kernel_rfl⟩
def ti41 : TI := ⟨.struct [(22, 0), (3, 1)], 2, [.cv .nilsl, .int .i64 0], 32⟩
theorem tc41 : checkT Try.prog 41 ti41 := ⟨by kernel_rfl, by kernel_rfl, by kernel_rfl, by kernel_rfl⟩
def ti46 : TI := ⟨.ptr 50, 1, [.cv .nilptr], 8⟩
theorem tc46 : checkT Try.prog 46 ti46 := ⟨by kernel_rfl, by kernel_rfl, by kernel_rfl, by kernel_rfl⟩
def ti47 : TI := ⟨.arr 6 3, 6, [.arr .i64 6 (fun _ => 0)], 48⟩
theorem tc47 : checkT Try.prog 47 ti47 := ⟨by kernel_rfl, by kernel_rfl, by kernel_rfl, by kernel_rfl⟩
def ti48 : TI := ⟨.arr 12 3, 12, [.arr .i64 12 (fun _ => 0)], 96⟩
theorem tc48 : checkT Try.prog 48 ti48 := ⟨by kernel_rfl, by kernel_rfl, by kernel_rfl, by kernel_rfl⟩
def ti50 : TI := ⟨.struct [(25, 0), (22, 1), (3, 2), (3, 3), (3, 4), (47, 5), (48, 11), (3, 23), (22, 24), (3, 25)], 26, [.cv .nilsl, .cv .nilsl, .int .i64 0, .int .i64 0, .int .i64 0, .arr .i64 6 (fun _ => 0), .arr .i64 12 (fun _ => 0), .int .i64 0, .cv .nilsl, .int .i64 0], 256⟩
theorem tc50 : checkT Try.prog 50 ti50 := ⟨by kernel_rfl, by kernel_rfl, by kernel_rfl, by kernel_rfl⟩
def ti53 : TI := ⟨.fn, 1, [.cv .nilfn], 8⟩
theorem tc53 : checkT Try.prog 53 ti53 := ⟨by kernel_rfl, by kernel_rfl, by kernel_rfl, by kernel_rfl⟩
def ti55 : TI := ⟨.fn, 1, [.cv .nilfn], 8⟩
theorem tc55 : checkT Try.prog 55 ti55 := ⟨by kernel_rfl, by kernel_rfl, by kernel_rfl, by kernel_rfl⟩
def tab : Tab := [(1, ti1), (2, ti2), (3, ti3), (4, ti4), (5, ti5), (6, ti6), (7, ti7), (8, ti8), (9, ti9), (22, ti22), (24, ti24), (25, ti25), (28, ti28), (41, ti41), (46, ti46), (47, ti47), (48, ti48), (50, ti50), (53, ti53), (55, ti55)]
theorem tabok : TabOK Try.prog tab := tabOK_cons tc1 (tabOK_cons tc2 (tabOK_cons tc3 (tabOK_cons tc4 (tabOK_cons tc5 (tabOK_cons tc6 (tabOK_cons tc7 (tabOK_cons tc8 (tabOK_cons tc9 (tabOK_cons tc22 (tabOK_cons tc24 (tabOK_cons tc25 (tabOK_cons tc28 (tabOK_cons tc41 (tabOK_cons tc46 (tabOK_cons tc47 (tabOK_cons tc48 (tabOK_cons tc50 (tabOK_cons tc53 (tabOK_cons tc55 (tabOK_nil))))))))))))))))))))
end Go.Sim
