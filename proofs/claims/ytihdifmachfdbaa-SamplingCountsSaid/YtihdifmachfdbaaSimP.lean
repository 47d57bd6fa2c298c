/- A part of the proof: values and stores in plain Lean, and the rules by which a walk is taken. -/
import Derived.Test.YtihdifmachfdbaaSimO
import Derived.Below
set_option autoImplicit false
set_option linter.unusedSimpArgs false
set_option linter.unusedVariables false
namespace Go.Sim
open Go

/-- The call that a row asks of, out of what the call comes to on closed values. -/
theorem walk_of {P : Program} {g : FuncId} {avs : List TV} {w : World} {args : Array Value} (h : CCall P g avs (.c (.bool true)))
    (hl : ListRep w (fun _ => False) ⟨fun _ => 0, fun _ => 0, fun _ => 0⟩ Store.empty avs args.toList) : Calls P g args w fun e w' => e = .returned (.bool true) ∧ Go.RowKit.Below w.heap.size w w' := by
  have hok : StoreOK (fun _ => False) ⟨fun _ => 0, fun _ => 0, fun _ => 0⟩ Store.empty w :=
    ⟨fun id o h => by simp [Store.empty] at h, fun _ _ => rfl, fun i j o o' h => by simp [Store.empty] at h, fun id o h => by simp [Store.empty] at h, fun b h => h.elim⟩
  have hm : Mut (fun _ => False) ⟨fun _ => 0, fun _ => 0, fun _ => 0⟩ Store.empty = fun _ => False := by
    funext b
    simp [Mut, live, Store.empty]
  refine (h Store.empty (fun _ => False) _ w args hok (by rw [hm]; exact hl)).mono ?_
  rintro e w' ⟨x, r, S', φ', rfl, ⟨rfl, rfl⟩, hr, _, hx⟩
  obtain rfl := rep_bool hr
  exact ⟨rfl, hx.os, hx.tape, hx.output, hx.size, fun k hk => hx.kept k hk fun ⟨id, o, ho, _⟩ => by simp [Store.empty] at ho⟩

section
variable {w : World} {M : Nat → Prop} {φ : Env} {S : Store}
theorem lr_nil : ListRep w M φ S [] [] := ⟨rfl, fun i hi => absurd hi (by simp)⟩
theorem lr_cons {v : TV} {x : Value} {l : List TV} {xs : List Value} (h : TRep w M φ S v x) (hl : ListRep w M φ S l xs) : ListRep w M φ S (v :: l) (x :: xs) := by
  refine ⟨by simp [hl.1], fun i hi y hy => ?_⟩
  cases i with
  | zero => simp at hy; subst hy; exact h
  | succ i => exact hl.2 i (by simpa using hi) y (by simpa using hy)
theorem lr_int {k : IntKind} {n : Int} : TRep w M φ S (.c (.int k n)) (.int k n) := .c _ _ (.int k n)
theorem lr_bool {b : Bool} : TRep w M φ S (.c (.bool b)) (.bool b) := .c _ _ (.bool b)
end
end Go.Sim
namespace Go.Sim
open Go
theorem wf_i64 {n : Int} (h : (Lit.int .i64 n).wf = true) : -9223372036854775808 ≤ n ∧ n < 9223372036854775808 := by
  simp [Lit.wf, IntKind.min, IntKind.max, IntKind.signed, IntKind.bits] at h
  omega
theorem wf_u8 {n : Int} (h : (Lit.int .u8 n).wf = true) : 0 ≤ n ∧ n < 256 := by
  simp [Lit.wf, IntKind.min, IntKind.max, IntKind.signed, IntKind.bits] at h
  omega
theorem wf_u64 {n : Int} (h : (Lit.int .u64 n).wf = true) : 0 ≤ n ∧ n < 18446744073709551616 := by
  simp [Lit.wf, IntKind.min, IntKind.max, IntKind.signed, IntKind.bits] at h
  omega
end Go.Sim
