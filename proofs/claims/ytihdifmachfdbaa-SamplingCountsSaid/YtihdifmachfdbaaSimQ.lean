/- A part of the proof: values and stores in plain Lean, and the rules by which a walk is taken. -/
import Derived.Test.YtihdifmachfdbaaSimP
set_option autoImplicit false
set_option linter.unusedSimpArgs false
set_option linter.unusedVariables false
namespace Go.Sim
open Go

/-! ### rows of whole numbers -/
def ints (l : List Int) : List TV := l.map fun n => .c (.int .i64 n)
def intsC (l : List Int) : List CV := l.map fun n => .int .i64 n
theorem ints_len (l : List Int) : (ints l).length = l.length := by simp [ints]
theorem ints_get {l : List Int} {i : Nat} (h : i < l.length) : (ints l)[i]? = some (.c (.int .i64 (l.getD i 0))) := by
  simp [ints, List.getD_eq_getElem?_getD, h]
theorem ints_set (l : List Int) (i : Nat) (v : Int) : (ints l).set i (.c (.int .i64 v)) = ints (l.set i v) := by
  simp [ints, List.map_set]
theorem ints_rep (n : Nat) : List.replicate n (.c (.int .i64 0)) = ints (List.replicate n 0) := by simp [ints]
theorem push_set (S : Store) (o o2 : AObj) : (S.push o).set S.next o2 = S.push o2 := by
  unfold Store.push Store.set
  congr 1
  funext i
  simp only
  split <;> rfl
theorem at_push_self (S : Store) (g0 : Nat) (et : TypeId) (esz : Nat) (cs : List TV) : (S.push (.cells g0 et esz cs)).at S.next g0 = some (et, esz, cs) := at_pushed S g0 et esz cs

theorem frz_ints {S : Store} {id g off len : Nat} {et : TypeId} {l : List Int} (h : S.at id g = some (et, 1, ints l)) (hle : off + len ≤ l.length) : Frz S (.view id g off len) (.sl len (intsC ((l.drop off).take len))) := by
  have hl : (intsC ((l.drop off).take len)).length = len := by simp [intsC]; omega
  refine .view id g off len et 1 (ints l) _ h (by rw [hl]; omega) (by omega) (by rw [ints_len]; omega) fun i hi v hv => ?_
  rw [hl] at hi
  rw [ints_get (by omega)] at hv
  injection hv with hv
  subst hv
  have e : (intsC ((l.drop off).take len))[i] = .int .i64 (l.getD (off + i) 0) := by
    simp [intsC, List.getD_eq_getElem?_getD]
    rw [List.getElem?_eq_getElem (by omega)]
    rfl
  rw [e]
  exact .c _
end Go.Sim
namespace Go.Sim
open Go
theorem splice_ints {l : List Int} {i : Nat} {v : Int} (h : i < l.length) : splice (ints l) i [.c (.int .i64 v)] = ints (l.set i v) := by
  rw [splice_one (by rw [ints_len]; exact h), ints_set]
theorem zrow_ints (n : Nat) : zrow [.int .i64 0] n = ints (List.replicate n 0) := by rw [zrow_one, ints_rep]
end Go.Sim
namespace Go.Sim
open Go
theorem intsC_len (l : List Int) : (intsC l).length = l.length := by simp [intsC]
theorem intsC_get {l : List Int} {i : Nat} (h : i < l.length) : ((intsC l).drop i)[0]? = some (.int .i64 (l.getD i 0)) := by
  simp [intsC, List.getD_eq_getElem?_getD, h]
end Go.Sim
namespace Go.Sim
open Go
def bls (l : List Bool) : List TV := l.map fun b => .c (.bool b)
theorem bls_len (l : List Bool) : (bls l).length = l.length := by simp [bls]
theorem bls_get {l : List Bool} {i : Nat} (h : i < l.length) : (bls l)[i]? = some (.c (.bool (l.getD i false))) := by
  simp [bls, List.getD_eq_getElem?_getD, h]
theorem splice_bls {l : List Bool} {i : Nat} {v : Bool} (h : i < l.length) : splice (bls l) i [.c (.bool v)] = bls (l.set i v) := by
  rw [splice_one (by rw [bls_len]; exact h)]
  simp [bls, List.map_set]
theorem zrow_bls (n : Nat) : zrow [.bool false] n = bls (List.replicate n false) := by rw [zrow_one]; simp [bls]
end Go.Sim
namespace Go.Sim
open Go
theorem at_empty0 (g : Nat) (et : TypeId) (esz : Nat) (cs : List TV) : (Store.empty.push (.cells g et esz cs)).at 0 g = some (et, esz, cs) := at_push_self Store.empty g et esz cs
theorem set_empty0 (o o2 : AObj) : (Store.empty.push o).set 0 o2 = Store.empty.push o2 := push_set Store.empty o o2
end Go.Sim
namespace Go.Sim
open Go
theorem frz_pair {S : Store} {a u : CV} {v : TV} (h : Frz S v u) : FrzT S (.tup [.c a, v]) (.tup [.c a, .c u]) := by
  refine .tup _ _ rfl fun i hi w hw => ?_
  match i, hi with
  | 0, _ => simp at hw; subst hw; exact .c _ _ (.c _)
  | 1, _ => simp at hw; subst hw; exact .c _ _ h
end Go.Sim
namespace Go.Sim
open Go
theorem awp_via {P : Program} {N : Nat} {T : Nat → TV} {S : Store} {Q : Exit → (Nat → TV) → Store → Prop} {c : Code} (M : (Nat → TV) → Store → Prop) (h1 : awp P N c (Then M Q) T S) (h2 : ∀ T S, M T S → Q .normal T S) : awp P N c Q T S := by
  refine awp_mono h1 ?_
  intro e T' S' h
  cases e with
  | normal => exact h2 T' S' h
  | _ => exact h
end Go.Sim
namespace Go.Sim
open Go
section
variable {P : Program} {S : Store} {t xt e : TypeId} {d : TypeDesc} {z : CV}
theorem app_nil (hu : P.underlying t = some (.slice e)) (hx : P.underlying xt = some (.slice e)) (hs : szOf P e = some 1) (hb : bytesOf P e = some 8) (hz : zeroCs P e = some [z])
    {id g off n : Nat} {et : TypeId} {l : List Int} (hat : S.at id g = some (et, 1, ints l)) (hl : off + n ≤ l.length) (hn : 0 < n) (hbig : n ≤ 1000000) :
    tvAppend P S t xt (.c .nilsl) (.view id g off n) = some (.view S.next 0 0 n, S.push (.cells 0 e 1 (ints ((l.drop off).take n)))) := by
  unfold tvAppend
  simp only [hu, hx, hs, hb, hz, srcOf, hat]
  rw [if_pos ⟨rfl, by omega⟩, if_pos (by rw [ints_len]; omega)]
  simp only
  rw [if_neg (by omega), if_pos (by omega)]
  simp [ints, List.map_take, List.map_drop]
theorem app_view (hu : P.underlying t = some (.slice e)) (hx : P.underlying xt = some (.slice e)) (hs : szOf P e = some 1) (hb : bytesOf P e = some 8) (hz : zeroCs P e = some [z])
    {id g off n : Nat} {et : TypeId} {l : List Int} (hat : S.at id g = some (et, 1, ints l)) (hl : off + n ≤ l.length) (hn : 0 < n)
    {id0 g0 off0 n0 : Nat} {l0 : List Int} (hat0 : S.at id0 g0 = some (e, 1, ints l0)) (hl0 : off0 + n0 ≤ l0.length) (hbig : n0 + n ≤ 1000000) :
    tvAppend P S t xt (.view id0 g0 off0 n0) (.view id g off n) = some (.view id0 (g0 + 1) 0 (n0 + n), S.set id0 (.cells (g0 + 1) e 1 (ints ((l0.drop off0).take n0 ++ (l.drop off).take n)))) := by
  unfold tvAppend
  simp only [hu, hx, hs, hb, hz, srcOf, hat]
  rw [if_pos ⟨rfl, by omega⟩, if_pos (by rw [ints_len]; omega)]
  simp only [hat0]
  rw [if_neg (by omega), if_pos ⟨trivial, trivial, by rw [ints_len]; omega, by omega, by omega⟩]
  simp [ints, List.map_take, List.map_drop]
theorem build_one (hu : P.underlying t = some (.slice e)) (hs : szOf P e = some 1) (hz : zeroCs P e = some [z]) (i : Int) :
    tvBuildSlice P S t 1 [(0, .c (.int .i64 i))] = some (.view S.next 0 0 1, S.push (.cells 0 e 1 (ints [i]))) := by
  unfold tvBuildSlice
  simp only [hu, hs, hz]
  rw [if_pos (by simp)]
  simp [tvFill, zrow, splice, cellsOf, ints, TV.one]
end
end Go.Sim
