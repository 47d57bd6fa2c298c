/- For every input the law SamplingSums returns true, and what was there before the call is as it was. The proof's own part is a layer of values and stores in plain Lean (the texts Sim..), by which the walk is taken. -/
import Derived.Test.YtihdifmachfdbaaRows
import Derived.Test.YtihdifmachfdbaaQ5
import Derived.WalkKit
import Derived.ProofKit
import Derived.OpenShut
import Derived.ChangeOld
import Derived.Below
import Derived.SizedLaws
import Derived.Carry
namespace Go.Proofs.Ytihdifmachfdbaa.samplingSums
open Go.ChangeShapes Go.WideShapes Go.ChangeAt Go.RowKit Go.Sim
set_option linter.unusedVariables false
theorem own : ownKnob Try.prog.godebug = none := by kernel_rfl
theorem laidOut : laidOutB Try.prog = true := by kernel_rfl
set_option maxRecDepth 100000 in
theorem lifted (os : Os) (started : os.Started) (H : Type) (enc : TypeId × Value → H) :
    ReturnsInHanded {} Try.checked os 10 .any (Rows.samplingSumsSpec.pre6 enc Try.prog Try.f10 Rows.samplingSumsRow.domain false) (Rows.samplingSumsSpec.post enc Try.prog Try.f10 false true false false) := by
  refine returnsInHanded_of_change_sized (C := Try.checked) own started (by kernel_rfl) Try.func10
    (ChangeSpec.witness6 (enc := enc) (C := Try.checked) false ⟨#[], #[.agg #[.int .i64 0, .int .i64 0], .agg #[.int .i64 0, .int .i64 0, .int .i64 0]], []⟩ 8 (by kernel_rfl) (by kernel_rfl) (by kernel_rfl) (by kernel_rfl)) ?_
  intro W base args ds gs before hval0 hW hcnd hsz0 _
  have hval : ∀ (j : Nat) t v, Try.f10.params[j]? = some t → args[j]? = some v → Value.okWide Try.prog W .any base t v := hval0
  have hW' := hW
  obtain ⟨p, q, hA0, hV, rfl, hfz, hnd⟩ := hW
  have hA : DataW.TrodAll enc Try.prog W 0 (fun _ => true) true Try.f10.params.toList args.toList ds p := hA0
  rw [Try.params10] at hA hval
  obtain ⟨v0, vs0, d0, ds0, p0, q0, hargs, rfl, rfl, h0, r0⟩ := trodAll_cons hA
  obtain ⟨v1, vs1, d1, ds1, p1, q1, rfl, rfl, rfl, h1, r1⟩ := trodAll_cons r0
  obtain ⟨rfl, rfl, rfl⟩ := trodAll_nil r1
  obtain rfl : args = #[v0, v1] := by cases args; simp_all
  obtain ⟨rfl, rfl⟩ := trodVars_none hV
  obtain ⟨y0, rfl⟩ : ∃ x, v0 = .agg x := by
    have hx := (hval 0 23 v0 rfl rfl)
    simp only [Value.okWide, Try.underlying23] at hx
    exact ⟨hx.choose, hx.choose_spec.1⟩
  obtain ⟨l0, g0, tt0⟩ := arg_agg (P := Try.prog) (w := W) (k := 8) (sh := (.cat (.int .i64) (.cat (.int .i64) .nil))) (φ := ⟨fun _ => 0, fun _ => 0, fun _ => 0⟩) (S := Store.empty) (by kernel_rfl) h0
  obtain ⟨x0, wf0, t0⟩ := typed_agg (t := (.p (.i .i64) (.i .i64))) rfl g0 tt0
  have k0 := h0
  have lt0 : ∀ x ∈ p0, x.block < W.heap.size := by obtain ⟨m, hm⟩ := k0; exact DataW.trod_lt m _ _ _ hm
  obtain ⟨y1, rfl⟩ : ∃ x, v1 = .agg x := by
    have hx := (hval 1 31 v1 rfl rfl)
    simp only [Value.okWide, Try.underlying31] at hx
    exact ⟨hx.choose, hx.choose_spec.1⟩
  obtain ⟨l1, g1, tt1⟩ := arg_agg (P := Try.prog) (w := W) (k := 8) (sh := (.cat (.int .i64) (.cat (.int .i64) (.cat (.int .i64) .nil)))) (φ := ⟨fun _ => 0, fun _ => 0, fun _ => 0⟩) (S := Store.empty) (by kernel_rfl) h1
  obtain ⟨x1, wf1, t1⟩ := typed_agg (t := (.p (.i .i64) (.p (.i .i64) (.i .i64)))) rfl g1 tt1
  have k1 := h1
  have lt1 : ∀ x ∈ p1, x.block < W.heap.size := by obtain ⟨m, hm⟩ := k1; exact DataW.trod_lt m _ _ _ hm
  clear hA0 hval0 hsz0
  refine (walk_of (w := W) (sums_law x0 x1 wf0 wf1) (lr_cons t0 (lr_cons t1 lr_nil))).mono fun e W' ⟨he, bel⟩ => ?_
  subst he
  exact ⟨_, rfl, _, _, _, [], _, [], hW', trodAll_mk1 (shut_bool Try.underlying4 _), (trodAll_cons_mk (Below.trod laidOut (by kernel_rfl) (of_decide_eq_true (by kernel_rfl)) k0 bel lt0) (trodAll_cons_mk (Below.trod laidOut (by kernel_rfl) (of_decide_eq_true (by kernel_rfl)) k1 bel lt1) trodAll_mk0)), rfl, bel.frame _, fun h => by cases h⟩
theorem over : Rows.samplingSumsRow.holds Try.pinned (OpenSpec.ofChange Rows.samplingSumsSpec) :=
  OpenClaim.holds_of_wide 10 Try.f10 rfl rfl rfl rfl rfl rfl rfl ⟨rfl, rfl, rfl, rfl, rfl⟩ rfl rfl rfl rfl rfl (by kernel_rfl) Try.func10 (by kernel_rfl)
    (of_decide_eq_true (by kernel_rfl)) (by unfold Func.isWrapper; first | (rw [if_pos (by decide +kernel)]; kernel_rfl) | (rw [if_neg (by decide +kernel)]; exact ⟨rfl, rfl⟩))
    (fun os started H enc _ => lifted os started H enc)
theorem proved : Rows.SamplingSumsSaid := over
#print axioms proved
end Go.Proofs.Ytihdifmachfdbaa.samplingSums
namespace Go.Proofs.Ytihdifmachfdbaa
/-- The row, under a short name, for the claim. -/
theorem samplingSums_holds : Rows.SamplingSumsSaid := samplingSums.proved
end Go.Proofs.Ytihdifmachfdbaa

