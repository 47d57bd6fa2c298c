/- A part of the proof: values and stores in plain Lean, and the rules by which a walk is taken. -/
import Derived.Test.YtihdifmachfdbaaSimN
import Derived.KernelRfl
import Derived.Laws.Bits64
import Derived.Laws.BitsLemmas
set_option autoImplicit false
set_option linter.unusedSimpArgs false
set_option linter.unusedVariables false
namespace Go.Sim
open Go

section
variable {P : Program} {b : Bool} {N : Nat} {T : Nat → TV} {S S' : Store} {ops : Array Oper} {o : Oper} {os : List Oper} {K : (Nat → TV) → Store → Prop}

/-! one operation at a time -/
theorem put_at (T : Nat → TV) (d : Tmp) (v : TV) (t : Nat) : put T (some d) v t = if t = d then v else T t := rfl
theorem put_none (T : Nat → TV) (v : TV) : put T none v = T := rfl
theorem ev_tmp (T : Nat → TV) (t : Nat) : ev T (.tmp t) = T t := rfl
theorem ev_const (T : Nat → TV) (c : _) : ev T (.const c) = ofConst c := rfl

theorem ops_nil (h : K T S) : opsWp P N ops [] K T S := h
theorem ops_prim {v : TV} (hg : o.guard = none) (he : evalPrim P T S o.op = some (v, S')) (h : opsWp P N ops os K (put T o.dst v) S') : opsWp P N ops (o :: os) K T S := by
  simp only [opsWp, hg]
  exact .inl ⟨v, S', he, h⟩
theorem ops_call {g : FuncId} {avs : List TV} {r : TV} (hg : o.guard = none) (hp : evalPrim P T S o.op = none) (hc : callOf T o.op = some (g, avs)) (hd : dstOk N o = true) (hf : isFunc P g = true) (hA : CCall P g avs r)
    (h : opsWp P N ops os K (put T o.dst r) S) : opsWp P N ops (o :: os) K T S := by
  simp only [opsWp, hg]
  exact .inr (callOf_awp hd hc hf hA h)
theorem ops_acall {g : FuncId} {avs : List TV} {R : TV → Store → Prop} (hg : o.guard = none) (hp : evalPrim P T S o.op = none) (hc : callOf T o.op = some (g, avs)) (hd : dstOk N o = true) (hf : isFunc P g = true) (hA : ACall P g avs S R)
    (h : ∀ r S', R r S' → opsWp P N ops os K (put T o.dst r) S') : opsWp P N ops (o :: os) K T S := by
  simp only [opsWp, hg]
  exact .inr (callOf_awpA hd hc hf hA h)
theorem ops_yes {j : Nat} {want : Bool} (t : Tmp) (hg : o.guard = some (j, want)) (ht : (ops[j]?).bind (·.dst) = some t) (hv : T t = .c (.bool want)) (h : opsWp P N ops ({ o with guard := none } :: os) K T S) : opsWp P N ops (o :: os) K T S := by
  have hv' : guardVal ops T j = some (some want) := by simp only [guardVal, ht, hv]
  simp only [opsWp, hg, hv', if_true] at h ⊢
  exact h
theorem ops_not {j : Nat} {want : Bool} (t : Tmp) (hg : o.guard = some (j, want)) (ht : (ops[j]?).bind (·.dst) = some t) (hv : T t = .c (.bool !want)) (h : opsWp P N ops os K (put T o.dst .und) S) : opsWp P N ops (o :: os) K T S := by
  have hv' : guardVal ops T j = some (some !want) := by simp only [guardVal, ht, hv]
  simp only [opsWp, hg, hv']
  rw [if_neg (by cases want <;> simp)]
  exact h


theorem ops_und {j : Nat} {want : Bool} (t : Tmp) (hg : o.guard = some (j, want)) (ht : (ops[j]?).bind (·.dst) = some t) (hv : T t = .und) (h : opsWp P N ops os K (put T o.dst .und) S) : opsWp P N ops (o :: os) K T S := by
  have hv' : guardVal ops T j = some none := by simp only [guardVal, ht, hv]
  simp only [opsWp, hg, hv']
  rw [if_neg (by simp)]
  exact h
theorem opd_nil (h : K T S) : opsD P b ops [] K T S := h
theorem opd_prim {v : TV} (hg : o.guard = none) (he : evalPrim P T S o.op = some (v, S')) (h : opsD P b ops os K (put T o.dst v) S') : opsD P b ops (o :: os) K T S := by
  simp only [opsD, hg, stepD, he]
  exact h
theorem opd_call {g : FuncId} {avs : List TV} {r : TV} (hg : o.guard = none) (hp : evalPrim P T S o.op = none) (hc : callOf T o.op = some (g, avs)) (hf : isFunc P g = true) (hA : CCall P g avs r)
    (h : opsD P b ops os K (put T o.dst r) S) : opsD P b ops (o :: os) K T S := by
  simp only [opsD, hg, stepD, hp]
  exact ⟨g, avs, r, hc, hf, .inl hA, h⟩
theorem opd_callS {g : FuncId} {avs : List TV} {r : TV} (hg : o.guard = none) (hp : evalPrim P T S o.op = none) (hc : callOf T o.op = some (g, avs)) (hf : isFunc P g = true) (hA : ACall P g avs S fun r' S' => r' = r ∧ S' = S)
    (h : opsD P false ops os K (put T o.dst r) S) : opsD P false ops (o :: os) K T S := by
  simp only [opsD, hg, stepD, hp]
  exact ⟨g, avs, r, hc, hf, .inr ⟨by trivial, hA⟩, h⟩
theorem opd_yes {j : Nat} {want : Bool} (t : Tmp) (hg : o.guard = some (j, want)) (ht : (ops[j]?).bind (·.dst) = some t) (hv : T t = .c (.bool want)) (h : opsD P b ops ({ o with guard := none } :: os) K T S) : opsD P b ops (o :: os) K T S := by
  have hv' : guardVal ops T j = some (some want) := by simp only [guardVal, ht, hv]
  simp only [opsD, hg, hv', if_true] at h ⊢
  exact h
theorem opd_not {j : Nat} {want : Bool} (t : Tmp) (hg : o.guard = some (j, want)) (ht : (ops[j]?).bind (·.dst) = some t) (hv : T t = .c (.bool !want)) (h : opsD P b ops os K (put T o.dst .und) S) : opsD P b ops (o :: os) K T S := by
  have hv' : guardVal ops T j = some (some !want) := by simp only [guardVal, ht, hv]
  simp only [opsD, hg, hv']
  rw [if_neg (by cases want <;> simp)]
  exact h

theorem opd_und {j : Nat} {want : Bool} (t : Tmp) (hg : o.guard = some (j, want)) (ht : (ops[j]?).bind (·.dst) = some t) (hv : T t = .und) (h : opsD P b ops os K (put T o.dst .und) S) : opsD P b ops (o :: os) K T S := by
  have hv' : guardVal ops T j = some none := by simp only [guardVal, ht, hv]
  simp only [opsD, hg, hv']
  rw [if_neg (by simp)]
  exact h
theorem awp_seq_n {x y : Code} {Q : Exit → (Nat → TV) → Store → Prop} (h : awp P N x (Then (awp P N y Q) Q) T S) : awp P N (.seq x y) Q T S := awp_seq h

/-- A region, its operations one at a time. -/
theorem awp_reg {id : Nat} {Q : Exit → (Nat → TV) → Store → Prop} (l : List Oper) (hN : ops.all (dstOk N) = true) (hl : ops.toList = l) (h : opsWp P N ops l (fun T S => Q .normal T S) T S) : awp P N (.region id ops false) Q T S := by
  subst hl
  exact awp_region hN h
theorem awp_regD (b : Bool) {id : Nat} {Q : Exit → (Nat → TV) → Store → Prop} (l : List Oper) (hm : P.follows .mixedOrders = true) (hN : ops.all (dstOk N) = true) (hd : drawOk P b ops = true) (hl : ops.toList = l) (h : opsD P b ops l (fun T S => Q .normal T S) T S) :
    awp P N (.region id ops true) Q T S := by
  subst hl
  exact awp_region_any hm hN hd h

theorem argT_zero (v : TV) (l : List TV) : argT (v :: l) 0 = v := rfl
theorem argT_succ (v : TV) (l : List TV) (n : Nat) : argT (v :: l) (n + 1) = argT l n := rfl

/-! integers -/
theorem shr1 {n : Int} : n.fdiv (2 ^ min (Int.toNat 1) IntKind.i64.bits) = n / 2 := by
  have e : (2 : Int) ^ min (Int.toNat 1) IntKind.i64.bits = 2 := by decide
  rw [e, Int.fdiv_eq_ediv_of_nonneg _ (by omega)]
theorem and1 {n : Int} (h0 : 0 ≤ n) (h : n < 9223372036854775808) : bitsI .and .i64 n 1 = n % 2 := by
  have e : ((BitVec.ofInt 64 n &&& BitVec.ofInt 64 1).toNat : Int) = n % 2 := by
    rw [BitVec.toNat_and, BitVec.toNat_ofInt, BitVec.toNat_ofInt]
    have h2 : (1 % ((2 ^ 64 : Nat) : Int)).toNat = 1 := by decide
    rw [h2, Nat.and_one_is_mod]
    omega
  show IntKind.wrap .i64 ((BitVec.ofInt 64 n &&& BitVec.ofInt 64 1).toNat : Int) = n % 2
  rw [e, IntKind.wrap_i64]
  omega

theorem wr64 {n : Int} (h : -9223372036854775808 ≤ n ∧ n < 9223372036854775808) : IntKind.wrap .i64 n = n := by
  rw [IntKind.wrap_i64]
  omega
theorem wru64 {n : Int} (h : 0 ≤ n ∧ n < 18446744073709551616) : IntKind.wrap .u64 n = n := by
  rw [IntKind.wrap_u64]
  omega
end
end Go.Sim
namespace Go.Sim
open Go
section
variable {P : Program} {N : Nat} {T : Nat → TV} {S S' : Store} {Q : Exit → (Nat → TV) → Store → Prop}
theorem awp_ifc {c : Operand} {x y : Code} {b : Bool} (hc : ev T c = .c (.bool b)) (h1 : b = true → awp P N x Q T S) (h2 : b = false → awp P N y Q T S) : awp P N (.cond c x y) Q T S := by
  refine awp_if hc ?_
  cases b with
  | true => exact h1 rfl
  | false => exact h2 rfl
/-- What holds between two parts, said at once for all ways there. -/
theorem awp_mid {x y : Code} (M : (Nat → TV) → Store → Prop) (h1 : awp P N x (Then M Q) T S) (h2 : ∀ T S, M T S → awp P N y Q T S) : awp P N (.seq x y) Q T S := by
  refine awp_seq (awp_mono h1 ?_)
  intro e T' S' h
  cases e with
  | normal => exact h2 T' S' h
  | _ => exact h
theorem awp_cut {c : Code} {next : (Nat → TV) → Store → Prop} (M : (Nat → TV) → Store → Prop) (h1 : awp P N c (Then M Q) T S) (h2 : ∀ T S, M T S → next T S) : awp P N c (Then next Q) T S := by
  refine awp_mono h1 ?_
  intro e T' S' h
  cases e with
  | normal => exact h2 T' S' h
  | _ => exact h
theorem andI {a b : Prop} (h1 : a) (h2 : b) : a ∧ b := ⟨h1, h2⟩
end
end Go.Sim

namespace Go.Sim
open Go
section
variable {P : Program} {N : Nat} {T : Nat → TV} {S S' : Store}
theorem at_set (S : Store) (i : Nat) (g0 : Nat) (et : TypeId) (esz : Nat) (cs : List TV) (j g : Nat) : (S.set i (.cells g0 et esz cs)).at j g = if j = i then (if g = g0 then some (et, esz, cs) else none) else S.at j g := by
  simp only [Store.at, get_set]
  by_cases h : j = i
  · simp [h]
  · simp only [if_neg h]
theorem at_set_same (S : Store) (i : Nat) (g0 : Nat) (et : TypeId) (esz : Nat) (cs : List TV) : (S.set i (.cells g0 et esz cs)).at i g0 = some (et, esz, cs) := by simp [at_set]
theorem at_set_ne (S : Store) (i : Nat) (g0 : Nat) (et : TypeId) (esz : Nat) (cs : List TV) (j g : Nat) (h : j ≠ i) : (S.set i (.cells g0 et esz cs)).at j g = S.at j g := by simp [at_set, h]
theorem at_pushed (S : Store) (g0 : Nat) (et : TypeId) (esz : Nat) (cs : List TV) : (S.push (.cells g0 et esz cs)).at S.next g0 = some (et, esz, cs) := by simp [Store.at, get_push]
theorem at_push_ne (S : Store) (o : AObj) (j g : Nat) (h : j < S.next) : (S.push o).at j g = S.at j g := at_push h
theorem at_pushed' (S : Store) (g0 : Nat) (et : TypeId) (esz : Nat) (cs : List TV) (j : Nat) (h : j = S.next) : (S.push (.cells g0 et esz cs)).at j g0 = some (et, esz, cs) := by subst h; exact at_pushed S g0 et esz cs
theorem splice_one {cs : List TV} {off : Nat} {v : TV} (h : off < cs.length) : splice cs off [v] = cs.set off v := by
  apply List.ext_getElem?
  intro i
  rw [splice_get (by simp; omega), List.getElem?_set]
  by_cases h1 : i < off
  · rw [if_pos h1, if_neg (by omega)]
  · rw [if_neg h1]
    by_cases h2 : i = off
    · subst h2; simp [h]
    · rw [if_neg (by simp; omega), if_neg (by omega)]
theorem splice_full {cs l : List TV} (h : l.length = cs.length) : splice cs 0 l = l := by simp [splice, h]
end
end Go.Sim
namespace Go.Sim
open Go
section
variable {P : Program} {N : Nat} {T : Nat → TV} {S S' : Store}
theorem ret_ok {fn : Func} {vs : List TV} {r : TV} (h1 : resAll P T S fn.results.toList = some vs) (h2 : frz S 8 (pack vs) = some r) : Post P fn (fun v S' => FrzT S' v r) .ret T S := ⟨vs, h1, frz_ok 8 _ _ h2⟩
end
end Go.Sim
