/- For every input the law SamplingSamples returns true, and what was there before the call is as it was. The proof's own part is a layer of values and stores in plain Lean (the texts Sim..), by which the walk is taken. -/
import Derived.Test.YtihdifmachfdbaaRows
import Derived.Test.YtihdifmachfdbaaQ2
import Derived.WalkKit
import Derived.ProofKit
import Derived.OpenShut
import Derived.ChangeOld
import Derived.Below
import Derived.SizedLaws
import Derived.Carry
namespace Go.Proofs.Ytihdifmachfdbaa.samplingSamples
open Go.ChangeShapes Go.WideShapes Go.ChangeAt Go.RowKit Go.Sim
set_option linter.unusedVariables false
theorem own : ownKnob Try.prog.godebug = none := by kernel_rfl
theorem laidOut : laidOutB Try.prog = true := by kernel_rfl
set_option maxRecDepth 100000 in
theorem lifted (os : Os) (started : os.Started) (H : Type) (enc : TypeId × Value → H) :
    ReturnsInHanded {} Try.checked os 6 .any (Rows.samplingSamplesSpec.pre6 enc Try.prog Try.f6 Rows.samplingSamplesRow.domain false) (Rows.samplingSamplesSpec.post enc Try.prog Try.f6 false true false false) := by
  refine returnsInHanded_of_change_sized (C := Try.checked) own started (by kernel_rfl) Try.func6
    (ChangeSpec.witness6 (enc := enc) (C := Try.checked) false ⟨#[], #[.int .u64 0, .agg #[.int .i64 0, .int .i64 0], .int .i64 0], []⟩ 8 (by kernel_rfl) (by kernel_rfl) (by kernel_rfl) (by kernel_rfl)) ?_
  intro W base args ds gs before hval0 hW hcnd hsz0 _
  have hval : ∀ (j : Nat) t v, Try.f6.params[j]? = some t → args[j]? = some v → Value.okWide Try.prog W .any base t v := hval0
  have hW' := hW
  obtain ⟨p, q, hA0, hV, rfl, hfz, hnd⟩ := hW
  have hA : DataW.TrodAll enc Try.prog W 0 (fun _ => true) true Try.f6.params.toList args.toList ds p := hA0
  rw [Try.params6] at hA hval
  obtain ⟨v0, vs0, d0, ds0, p0, q0, hargs, rfl, rfl, h0, r0⟩ := trodAll_cons hA
  obtain ⟨v1, vs1, d1, ds1, p1, q1, rfl, rfl, rfl, h1, r1⟩ := trodAll_cons r0
  obtain ⟨v2, vs2, d2, ds2, p2, q2, rfl, rfl, rfl, h2, r2⟩ := trodAll_cons r1
  obtain ⟨rfl, rfl, rfl⟩ := trodAll_nil r2
  obtain rfl : args = #[v0, v1, v2] := by cases args; simp_all
  obtain ⟨rfl, rfl⟩ := trodVars_none hV
  obtain ⟨x0, rfl, rfl, rfl, wf0⟩ := open_int Try.underlying45 (hval 0 45 v0 rfl rfl) h0
  obtain ⟨y1, rfl⟩ : ∃ x, v1 = .agg x := by
    have hx := (hval 1 23 v1 rfl rfl)
    simp only [Value.okWide, Try.underlying23] at hx
    exact ⟨hx.choose, hx.choose_spec.1⟩
  obtain ⟨l1, g1, tt1⟩ := arg_agg (P := Try.prog) (w := W) (k := 8) (sh := (.cat (.int .i64) (.cat (.int .i64) .nil))) (φ := ⟨fun _ => 0, fun _ => 0, fun _ => 0⟩) (S := Store.empty) (by kernel_rfl) h1
  obtain ⟨x1, wf1, t1⟩ := typed_agg (t := (.p (.i .i64) (.i .i64))) rfl g1 tt1
  have k1 := h1
  have lt1 : ∀ x ∈ p1, x.block < W.heap.size := by obtain ⟨m, hm⟩ := k1; exact DataW.trod_lt m _ _ _ hm
  obtain ⟨x2, rfl, rfl, rfl, wf2⟩ := open_int Try.underlying3 (hval 2 3 v2 rfl rfl) h2
  clear hA0 hval0 hsz0
  refine (walk_of (w := W) (samples_law x0 x1 x2 wf0 wf1 wf2) (lr_cons lr_int (lr_cons t1 (lr_cons lr_int lr_nil)))).mono fun e W' ⟨he, bel⟩ => ?_
  subst he
  exact ⟨_, rfl, _, _, _, [], _, [], hW', trodAll_mk1 (shut_bool Try.underlying4 _), (trodAll_cons_mk (shut_int Try.underlying45 wf0) (trodAll_cons_mk (Below.trod laidOut (by kernel_rfl) (of_decide_eq_true (by kernel_rfl)) k1 bel lt1) (trodAll_cons_mk (shut_int Try.underlying3 wf2) trodAll_mk0))), rfl, bel.frame _, fun h => by cases h⟩
theorem over : Rows.samplingSamplesRow.holds Try.pinned (OpenSpec.ofChange Rows.samplingSamplesSpec) :=
  OpenClaim.holds_of_wide 6 Try.f6 rfl rfl rfl rfl rfl rfl rfl ⟨rfl, rfl, rfl, rfl, rfl⟩ rfl rfl rfl rfl rfl (by kernel_rfl) Try.func6 (by kernel_rfl)
    (of_decide_eq_true (by kernel_rfl)) (by unfold Func.isWrapper; first | (rw [if_pos (by decide +kernel)]; kernel_rfl) | (rw [if_neg (by decide +kernel)]; exact ⟨rfl, rfl⟩))
    (fun os started H enc _ => lifted os started H enc)
theorem proved : Rows.SamplingSamplesSaid := over
#print axioms proved
end Go.Proofs.Ytihdifmachfdbaa.samplingSamples
namespace Go.Proofs.Ytihdifmachfdbaa
/-- The row, under a short name, for the claim. -/
theorem samplingSamples_holds : Rows.SamplingSamplesSaid := samplingSamples.proved
end Go.Proofs.Ytihdifmachfdbaa

