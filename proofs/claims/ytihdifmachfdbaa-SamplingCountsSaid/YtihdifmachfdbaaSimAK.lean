/- A part of the proof: values and stores in plain Lean, and the rules by which a walk is taken. -/
import Derived.Test.YtihdifmachfdbaaSimAJ
set_option autoImplicit false
set_option linter.unusedSimpArgs false
set_option linter.unusedVariables false
namespace Go.Sim
open Go

/-! ### jumps back -/
section
variable {P : Program} {n0 N : Nat} {Q : Exit → (Nat → TV) → Store → Prop} {T : Nat → TV} {S : Store}

theorem awB_scope {c : Code} (J : Nat → Nat → (Nat → TV) → Store → Prop)
    (first : awpB P n0 N c (Jump (fun l T S => ∃ n, J n l T S) Q) T S)
    (pass : ∀ n l T S, J n l T S → ∃ rest, findLabel c l = some rest ∧ awpB P n0 N rest (Jump (fun l' T S => ∃ m, m < n ∧ J m l' T S) Q) T S) : awpB P n0 N (.scope c) Q T S := by
  intro F φ a w φ0 S0 w0 hb0 hs hx b k cs
  have key : ∀ n, ∀ l T S φ1 a w, J n l T S → SRep N F φ1 T S a w → Ext φ0 S0 w0 φ1 S w → ∃ rest, findLabel c l = some rest ∧
      ∃ e a' w', (∃ φ' T' S', Q e T' S' ∧ SRep N F φ' T' S' a' w' ∧ Ext φ0 S0 w0 φ' S' w') ∧ Arrives P (lone (b.at a (.code rest :: .inScope c :: k)) cs w) b k cs e a' w' := by
    intro n
    induction n using Nat.strongRecOn with
    | _ n ih =>
      intro l T S φ1 a w hJ hs hx
      obtain ⟨rest, hf, hp⟩ := pass n l T S hJ
      refine ⟨rest, hf, ?_⟩
      obtain ⟨e, a1, w1, ⟨φ', T', S', hq, hs1, hx1⟩, harr⟩ := hp F φ1 a w φ0 S0 w0 hb0 hs hx b (.inScope c :: k) cs
      cases e with
      | normal => exact ⟨.normal, a1, w1, ⟨φ', T', S', hq, hs1, hx1⟩, Steps.trans harr (.one step_inScope)⟩
      | exit id => exact ⟨.exit id, a1, w1, ⟨φ', T', S', hq, hs1, hx1⟩, fun k' hk => harr k' (by simp [exitTo, hk])⟩
      | goto l' =>
        obtain ⟨m, hm, hJ'⟩ := hq
        obtain ⟨rest', hf', e2, a2, w2, ⟨φ2, T2, S2, q2, r2, x2⟩, harr2⟩ := ih m hm l' T' S' φ' a1 w1 hJ' hs1 hx1
        have hg : gotoIn l' (.inScope c :: k) = some (.code rest' :: .inScope c :: k) := by simp [gotoIn, hf']
        exact ⟨e2, a2, w2, ⟨φ2, T2, S2, q2, r2, x2⟩, .of_steps (harr _ hg) harr2⟩
      | ret => exact ⟨_, a1, w1, ⟨φ', T', S', hq, hs1, hx1⟩, harr⟩
      | panic ch => exact ⟨_, a1, w1, ⟨φ', T', S', hq, hs1, hx1⟩, harr⟩
      | outgrown => exact ⟨_, a1, w1, ⟨φ', T', S', hq, hs1, hx1⟩, harr⟩
  obtain ⟨e, a1, w1, ⟨φ', T', S', hq, hs1, hx1⟩, harr⟩ := first F φ a w φ0 S0 w0 hb0 hs hx b (.inScope c :: k) cs
  cases e with
  | normal => exact ⟨.normal, a1, w1, ⟨φ', T', S', hq, hs1, hx1⟩, .head step_scope (Steps.trans harr (.one step_inScope))⟩
  | exit id => exact ⟨.exit id, a1, w1, ⟨φ', T', S', hq, hs1, hx1⟩, fun k' hk => .head step_scope (harr k' (by simp [exitTo, hk]))⟩
  | goto l' =>
    obtain ⟨m, hJ'⟩ := hq
    obtain ⟨rest', hf', e2, a2, w2, ⟨φ2, T2, S2, q2, r2, x2⟩, harr2⟩ := key m l' T' S' φ' a1 w1 hJ' hs1 hx1
    have hg : gotoIn l' (.inScope c :: k) = some (.code rest' :: .inScope c :: k) := by simp [gotoIn, hf']
    exact ⟨e2, a2, w2, ⟨φ2, T2, S2, q2, r2, x2⟩, .of_steps (.head step_scope (harr _ hg)) harr2⟩
  | ret => exact ⟨_, a1, w1, ⟨φ', T', S', hq, hs1, hx1⟩, .of_steps (.one step_scope) harr⟩
  | panic ch => exact ⟨_, a1, w1, ⟨φ', T', S', hq, hs1, hx1⟩, .of_steps (.one step_scope) harr⟩
  | outgrown => exact ⟨_, a1, w1, ⟨φ', T', S', hq, hs1, hx1⟩, .of_steps (.one step_scope) harr⟩

/-- A scope that begins with the label to which it jumps. -/
theorem aw_again {R : Code} {l : Nat} {X : Type} (Tm : X → (Nat → TV)) (St : X → Store) (pre : X → Prop) (ms : X → Nat) (x0 : X) (hg : Goes n0 T S (Tm x0) (St x0)) (hp : pre x0)
    (body : ∀ x, pre x → awpB P n0 N R (Jump (fun l' T' S' => l' = l ∧ ∃ x', Goes n0 T' S' (Tm x') (St x') ∧ pre x' ∧ ms x' < ms x) Q) (Tm x) (St x)) : awpB P n0 N (.scope (.seq (.label l) R)) Q T S := by
  have main : ∀ x, pre x → awpB P n0 N R (Jump (fun l' T' S' => ∃ m, m < ms x ∧ l' = l ∧ ∃ x', m = ms x' ∧ pre x' ∧ T' = Tm x' ∧ S' = St x') Q) (Tm x) (St x) := by
    intro x hpx F φ a w φ0 S0 w0 h0 hs hx
    refine wp_mono (body x hpx F φ a w φ0 S0 w0 h0 hs hx) ?_
    rintro e a1 w1 ⟨φ1, T1, S1, hq, hs1, hx1⟩
    cases e with
    | goto l' =>
      obtain ⟨rfl, x', g1, g2, g3⟩ := hq
      obtain ⟨φ2, hs2, hx2⟩ := g1 N F φ1 a1 w1 hs1
      exact ⟨φ2, _, _, ⟨ms x', g3, rfl, x', rfl, g2, rfl, rfl⟩, hs2, hx2 _ _ _ h0 hx1⟩
    | _ => exact ⟨φ1, T1, S1, hq, hs1, hx1⟩
  refine awB_goes hg (awB_scope (fun n l' T S => l' = l ∧ ∃ x, n = ms x ∧ pre x ∧ T = Tm x ∧ S = St x) ?_ ?_)
  · refine aw_seq (aw_label ?_)
    refine awpB_mono (main x0 hp) ?_
    intro e T S hq
    cases e with
    | goto l' => obtain ⟨m, _, h⟩ := hq; exact ⟨m, h⟩
    | _ => exact hq
  · rintro n l' T S ⟨rfl, x, rfl, hpx, rfl, rfl⟩
    refine ⟨.seq .skip R, by simp [findLabel], ?_⟩
    refine aw_seq (aw_skip ?_)
    exact main x hpx

theorem q_tt {b : Bool} (h : b = true) : SV.tt.out = (SV.bool b).out := by subst h; rfl
theorem q_ff {b : Bool} (h : b = false) : SV.ff.out = (SV.bool b).out := by subst h; rfl
end
end Go.Sim
