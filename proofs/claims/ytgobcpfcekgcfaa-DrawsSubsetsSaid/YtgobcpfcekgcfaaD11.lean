/- A part of the proof: the walks of this law's functions. -/
import Derived.Test.YtgobcpfcekgcfaaSimR
import Derived.Test.YtgobcpfcekgcfaaD10
import Derived.Shelf.Slices.In.SortNone
import Derived.Shelf.Slices.In.SortAlone
namespace Go.Proofs
open Go.Shelf
def Try.laysSort_ren : Go.Shelf.Ren := ⟨fun | 189 => 27 | 125 => 31 | 257 => 30 | 128 => 41 | 129 => 42 | 294 => 32 | 295 => 33 | 296 => 34 | 297 => 35 | 298 => 36 | 299 => 37 | 216 => 38 | 300 => 39 | 301 => 40 | 328 => 43 | 329 => 44 | 330 => 45 | 331 => 46 | 332 => 47 | 215 => 48 | 343 => 49 | n => n, fun | 28 => 29 | 3 => 3 | 46 => 43 | 0 => 0 | 51 => 60 | 53 => 22 | 4 => 4 | 183 => 52 | 182 => 51 | 131 => 57 | 5 => 5 | 9 => 9 | 218 => 62 | 222 => 66 | 228 => 69 | 229 => 70 | n => n, fun n => n⟩
theorem Try.laysSort : Go.Proofs.Lays.n189 Try.prog Try.laysSort_ren := {
  mixed := by kernel_rfl,
  f125 := Try.func31.trans (congrArg some (by kernel_rfl)),
  f128 := Try.func41.trans (congrArg some (by kernel_rfl)),
  f129 := Try.func42.trans (congrArg some (by kernel_rfl)),
  f189 := Try.func27.trans (congrArg some (by kernel_rfl)),
  f215 := Try.func48.trans (congrArg some (by kernel_rfl)),
  f216 := Try.func38.trans (congrArg some (by kernel_rfl)),
  f257 := Try.func30.trans (congrArg some (by kernel_rfl)),
  f294 := Try.func32.trans (congrArg some (by kernel_rfl)),
  f295 := Try.func33.trans (congrArg some (by kernel_rfl)),
  f296 := Try.func34.trans (congrArg some (by kernel_rfl)),
  f297 := Try.func35.trans (congrArg some (by kernel_rfl)),
  f298 := Try.func36.trans (congrArg some (by kernel_rfl)),
  f299 := Try.func37.trans (congrArg some (by kernel_rfl)),
  f300 := Try.func39.trans (congrArg some (by kernel_rfl)),
  f301 := Try.func40.trans (congrArg some (by kernel_rfl)),
  f328 := Try.func43.trans (congrArg some (by kernel_rfl)),
  f329 := Try.func44.trans (congrArg some (by kernel_rfl)),
  f330 := Try.func45.trans (congrArg some (by kernel_rfl)),
  f331 := Try.func46.trans (congrArg some (by kernel_rfl)),
  f332 := Try.func47.trans (congrArg some (by kernel_rfl)),
  f343 := Try.func49.trans (congrArg some (by kernel_rfl)),
  t0 := Try.underlying0,
  a0 := Try.isAgg0,
  z0 := Try.sizeOf0,
  v0 := Try.zeroValue0,
  t3 := Try.underlying3,
  a3 := Try.isAgg3,
  z3 := Try.sizeOf3,
  v3 := Try.zeroValue3,
  t4 := Try.underlying4,
  a4 := Try.isAgg4,
  z4 := Try.sizeOf4,
  v4 := Try.zeroValue4,
  t5 := Try.underlying5,
  a5 := Try.isAgg5,
  z5 := Try.sizeOf5,
  v5 := Try.zeroValue5,
  t9 := Try.underlying9,
  a9 := Try.isAgg9,
  z9 := Try.sizeOf9,
  v9 := Try.zeroValue9,
  t28 := Try.underlying29,
  a28 := Try.isAgg29,
  z28 := Try.sizeOf29,
  v28 := Try.zeroValue29,
  t46 := Try.underlying43,
  a46 := Try.isAgg43,
  z46 := Try.sizeOf43,
  v46 := Try.zeroValue43,
  t51 := Try.underlying60,
  a51 := Try.isAgg60,
  z51 := Try.sizeOf60,
  v51 := Try.zeroValue60,
  t53 := Try.underlying22,
  a53 := Try.isAgg22,
  z53 := Try.sizeOf22,
  v53 := Try.zeroValue22,
  t131 := Try.underlying57,
  a131 := Try.isAgg57,
  z131 := Try.sizeOf57,
  v131 := Try.zeroValue57,
  t182 := Try.underlying51,
  a182 := Try.isAgg51,
  z182 := Try.sizeOf51,
  v182 := Try.zeroValue51,
  t183 := Try.underlying52,
  a183 := Try.isAgg52,
  z183 := Try.sizeOf52,
  v183 := Try.zeroValue52,
  t218 := Try.underlying62,
  a218 := Try.isAgg62,
  z218 := Try.sizeOf62,
  v218 := Try.zeroValue62,
  t222 := Try.underlying66,
  a222 := Try.isAgg66,
  z222 := Try.sizeOf66,
  v222 := Try.zeroValue66,
  t228 := Try.underlying69,
  a228 := Try.isAgg69,
  z228 := Try.sizeOf69,
  v228 := Try.zeroValue69,
  t229 := Try.underlying70,
  a229 := Try.isAgg70,
  z229 := Try.sizeOf70,
  v229 := Try.zeroValue70 }
end Go.Proofs
namespace Go.Sim
open Go Go.Proofs Go.Sort
set_option maxRecDepth 4000
set_option autoImplicit false
set_option linter.unusedSimpArgs false
set_option linter.unusedVariables false
theorem sort_none (a : Option Addr) (cap : Nat) (w : World) : Calls Try.prog 27 #[.slice a 0 cap] w fun e w' => e = .returned (.tuple #[]) ∧ w' = w :=
  calls_of_every_depth fun D => AnyS.slices_Sort_int_none_alone Try.laysSort D a cap w
theorem sort_some (blk off cap : Nat) (zs : List Int) (w : World) (hH : Holds (Value.int .i64) w blk off zs.toArray) (hb : blk < w.heap.size) (hsz : zs.length < 4611686018427387904) :
    Calls Try.prog 27 #[.slice (some ⟨blk, off, none⟩) zs.length cap] w fun e w' => e = .returned (.tuple #[]) ∧ ∃ n os, w' = grow (putRow (Value.int .i64) (Sort.ahead w n) blk off (zs.mergeSort fun x y => decide (x ≤ y)).toArray) os :=
  calls_of_every_depth fun D => AnyS.slices_Sort_int_alone Try.laysSort D blk off cap zs w hH hb hsz
theorem sort_ok {S : Store} {id g off len : Nat} {et : TypeId} {l : List Int} (hat : S.at id g = some (et, 1, ints l)) (hle : off + len ≤ l.length) (hsz : len < 4611686018427387904) :
    ACall Try.prog 27 [.view id g off len] S fun r S' => r = .tup [] ∧ S' = S.set id (.cells g et 1 (ints (sortMid l off len))) :=
  sort_acall sort_some sort_none hat hle hsz
end Go.Sim
