/- A part of the proof: values and stores in plain Lean, and the rules by which a walk is taken. -/
import Derived.Test.YtgobcpfcekgcfaaSimP
set_option autoImplicit false
set_option linter.unusedSimpArgs false
set_option linter.unusedVariables false
namespace Go.Sim
open Go

/-! ### rows of whole numbers -/
def ints (l : List Int) : List TV := l.map fun n => .c (.int .i64 n)
def intsC (l : List Int) : List CV := l.map fun n => .int .i64 n
theorem ints_len (l : List Int) : (ints l).length = l.length := by simp [ints]
theorem ints_get {l : List Int} {i : Nat} (h : i < l.length) : (ints l)[i]? = some (.c (.int .i64 (l.getD i 0))) := by
  simp [ints, List.getD_eq_getElem?_getD, h]
theorem ints_set (l : List Int) (i : Nat) (v : Int) : (ints l).set i (.c (.int .i64 v)) = ints (l.set i v) := by
  simp [ints, List.map_set]
theorem ints_rep (n : Nat) : List.replicate n (.c (.int .i64 0)) = ints (List.replicate n 0) := by simp [ints]
theorem push_set (S : Store) (o o2 : AObj) : (S.push o).set S.next o2 = S.push o2 := by
  unfold Store.push Store.set
  congr 1
  funext i
  simp only
  split <;> rfl
theorem at_push_self (S : Store) (g0 : Nat) (et : TypeId) (esz : Nat) (cs : List TV) : (S.push (.cells g0 et esz cs)).at S.next g0 = some (et, esz, cs) := at_pushed S g0 et esz cs

theorem frz_ints {S : Store} {id g off len : Nat} {et : TypeId} {l : List Int} (h : S.at id g = some (et, 1, ints l)) (hle : off + len ≤ l.length) : Frz S (.view id g off len) (.sl len (intsC ((l.drop off).take len))) := by
  have hl : (intsC ((l.drop off).take len)).length = len := by simp [intsC]; omega
  refine .view id g off len et 1 (ints l) _ h (by rw [hl]; omega) (by omega) (by rw [ints_len]; omega) fun i hi v hv => ?_
  rw [hl] at hi
  rw [ints_get (by omega)] at hv
  injection hv with hv
  subst hv
  have e : (intsC ((l.drop off).take len))[i] = .int .i64 (l.getD (off + i) 0) := by
    simp [intsC, List.getD_eq_getElem?_getD]
    rw [List.getElem?_eq_getElem (by omega)]
    rfl
  rw [e]
  exact .c _
end Go.Sim
namespace Go.Sim
open Go
theorem splice_ints {l : List Int} {i : Nat} {v : Int} (h : i < l.length) : splice (ints l) i [.c (.int .i64 v)] = ints (l.set i v) := by
  rw [splice_one (by rw [ints_len]; exact h), ints_set]
theorem zrow_ints (n : Nat) : zrow [.int .i64 0] n = ints (List.replicate n 0) := by rw [zrow_one, ints_rep]
end Go.Sim
namespace Go.Sim
open Go
theorem intsC_len (l : List Int) : (intsC l).length = l.length := by simp [intsC]
theorem intsC_get {l : List Int} {i : Nat} (h : i < l.length) : ((intsC l).drop i)[0]? = some (.int .i64 (l.getD i 0)) := by
  simp [intsC, List.getD_eq_getElem?_getD, h]
end Go.Sim
namespace Go.Sim
open Go
def bls (l : List Bool) : List TV := l.map fun b => .c (.bool b)
theorem bls_len (l : List Bool) : (bls l).length = l.length := by simp [bls]
theorem bls_get {l : List Bool} {i : Nat} (h : i < l.length) : (bls l)[i]? = some (.c (.bool (l.getD i false))) := by
  simp [bls, List.getD_eq_getElem?_getD, h]
theorem splice_bls {l : List Bool} {i : Nat} {v : Bool} (h : i < l.length) : splice (bls l) i [.c (.bool v)] = bls (l.set i v) := by
  rw [splice_one (by rw [bls_len]; exact h)]
  simp [bls, List.map_set]
theorem zrow_bls (n : Nat) : zrow [.bool false] n = bls (List.replicate n false) := by rw [zrow_one]; simp [bls]
end Go.Sim
namespace Go.Sim
open Go
theorem at_empty0 (g : Nat) (et : TypeId) (esz : Nat) (cs : List TV) : (Store.empty.push (.cells g et esz cs)).at 0 g = some (et, esz, cs) := at_push_self Store.empty g et esz cs
theorem set_empty0 (o o2 : AObj) : (Store.empty.push o).set 0 o2 = Store.empty.push o2 := push_set Store.empty o o2
end Go.Sim
