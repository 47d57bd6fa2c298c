/- A part of the proof: values and stores in plain Lean, and the rules by which a walk is taken. -/
import Derived.Test.YtihdifmachfdbaaSimY
set_option autoImplicit false
set_option linter.unusedSimpArgs false
set_option linter.unusedVariables false
namespace Go.Sim
open Go

/-! ### code behind a fixed beginning: objects that came since may be forgotten -/
def awpB (P : Program) (n0 : Nat) (N : Nat) (c : Code) (Q : Exit → (Nat → TV) → Store → Prop) (T : Nat → TV) (S : Store) : Prop :=
  ∀ (F : Nat → Prop) (φ : Env) (a : Act) (w : World) (φ0 : Env) (S0 : Store) (w0 : World), (∀ id o, S0.get id = some o → id < n0) → SRep N F φ T S a w → Ext φ0 S0 w0 φ S w →
    c.wp P (fun e a' w' => ∃ φ' T' S', Q e T' S' ∧ SRep N F φ' T' S' a' w' ∧ Ext φ0 S0 w0 φ' S' w') a w

section rules
variable {P : Program} {n0 N : Nat} {Q : Exit → (Nat → TV) → Store → Prop} {T : Nat → TV} {S : Store}

theorem awpB_of {c : Code} (h : awp P N c Q T S) : awpB P n0 N c Q T S := fun F φ a w φ0 S0 w0 _ hs hx =>
  wp_mono (h F φ a w hs) fun _ _ _ ⟨φ', T', S', q, r, x⟩ => ⟨φ', T', S', q, r, hx.trans x⟩

theorem awpB_mono {c : Code} {Q' : Exit → (Nat → TV) → Store → Prop} (h : awpB P n0 N c Q T S) (hq : ∀ e T S, Q e T S → Q' e T S) : awpB P n0 N c Q' T S :=
  fun F φ a w φ0 S0 w0 h0 hs hx => wp_mono (h F φ a w φ0 S0 w0 h0 hs hx) fun _ _ _ ⟨φ', T', S', q, r, x⟩ => ⟨φ', T', S', hq _ _ _ q, r, x⟩

theorem aw_skip (h : Q .normal T S) : awpB P n0 N .skip Q T S := awpB_of (awp_skip h)
theorem aw_label {l : Nat} (h : Q .normal T S) : awpB P n0 N (.label l) Q T S := awpB_of (awp_label h)
theorem aw_exit {id : Nat} (h : Q (.exit id) T S) : awpB P n0 N (.exit id) Q T S := awpB_of (awp_exit h)
theorem aw_goto {l : Nat} (h : Q (.goto l) T S) : awpB P n0 N (.goto l) Q T S := awpB_of (awp_goto h)
theorem aw_ret (h : Q .ret T S) : awpB P n0 N .ret Q T S := awpB_of (awp_ret h)

theorem aw_seq {x y : Code} (h : awpB P n0 N x (Then (awpB P n0 N y Q) Q) T S) : awpB P n0 N (.seq x y) Q T S := by
  intro F φ a w φ0 S0 w0 h0 hs hx
  refine wp_seq (wp_mono (h F φ a w φ0 S0 w0 h0 hs hx) ?_)
  rintro e a1 w1 ⟨φ1, T1, S1, hq, hs1, hx1⟩
  cases e with
  | normal => exact hq F φ1 a1 w1 φ0 S0 w0 h0 hs1 hx1
  | _ => exact ⟨φ1, T1, S1, hq, hs1, hx1⟩

theorem aw_condB {c : Operand} {x y : Code} {b : Bool} (hc : ev T c = .c (.bool b)) (h : awpB P n0 N (if b then x else y) Q T S) : awpB P n0 N (.cond c x y) Q T S :=
  fun F φ a w φ0 S0 w0 h0 hs hx => by
    have := ev_rep hs c
    rw [hc] at this
    exact wp_cond (rep_bool this) (h F φ a w φ0 S0 w0 h0 hs hx)

theorem aw_block {id : Nat} {c : Code} (h : awpB P n0 N c (InBlock id Q) T S) : awpB P n0 N (.block id c) Q T S := by
  intro F φ a w φ0 S0 w0 h0 hs hx
  refine wp_block (wp_mono (h F φ a w φ0 S0 w0 h0 hs hx) ?_)
  rintro e a1 w1 ⟨φ1, T1, S1, hq, hs1, hx1⟩
  cases e with
  | exit id' =>
    simp only [InBlock, Exit.inBlock] at hq ⊢
    split at hq
    · rename_i e; rw [if_pos e]; exact ⟨φ1, T1, S1, hq, hs1, hx1⟩
    · rename_i e; rw [if_neg e]; exact ⟨φ1, T1, S1, hq, hs1, hx1⟩
  | _ => exact ⟨φ1, T1, S1, hq, hs1, hx1⟩

theorem awB_loop {c : Code} (I : Nat → (Nat → TV) → Store → Prop) (n : Nat) (h0 : I n T S)
    (round : ∀ n T S, I n T S → awpB P n0 N c (Then (fun T' S' => ∃ m, m < n ∧ I m T' S') Q) T S) : awpB P n0 N (.loop c) Q T S := by
  intro F φ a w φ0 S0 w0 hb0 hs hx
  have key : ∀ n, ∀ T S φ1 a w, I n T S → SRep N F φ1 T S a w → Ext φ0 S0 w0 φ1 S w → ∀ (b : Frame) (k : List Item) (cs : List Frame),
      ∃ e a' w', (∃ φ' T' S', Q e T' S' ∧ SRep N F φ' T' S' a' w' ∧ Ext φ0 S0 w0 φ' S' w') ∧
        Arrives P (lone (b.at a (.code c :: .inLoop c :: k)) cs w) b k cs e a' w' := by
    intro n
    induction n using Nat.strongRecOn with
    | _ n ih =>
      intro T S φ1 a w hI hs hx b k cs
      obtain ⟨e, a1, w1, ⟨φ', T', S', hq, hs1, hx1⟩, harr⟩ := round n T S hI F φ1 a w φ0 S0 w0 hb0 hs hx b (.inLoop c :: k) cs
      cases e with
      | normal =>
        obtain ⟨m, hlt, hI1⟩ := hq
        obtain ⟨e2, a2, w2, hq2, harr2⟩ := ih m hlt T' S' φ' a1 w1 hI1 hs1 hx1 b k cs
        exact ⟨e2, a2, w2, hq2, .of_steps (Steps.trans harr (.one step_inLoop)) harr2⟩
      | exit id => exact ⟨_, a1, w1, ⟨φ', T', S', hq, hs1, hx1⟩, .pass (x := .inLoop c) rfl (fun _ _ => .inl (by simp)) harr⟩
      | goto l => exact ⟨_, a1, w1, ⟨φ', T', S', hq, hs1, hx1⟩, .pass (x := .inLoop c) rfl (fun _ _ => .inl (by simp)) harr⟩
      | ret => exact ⟨_, a1, w1, ⟨φ', T', S', hq, hs1, hx1⟩, .pass (x := .inLoop c) rfl (fun _ _ => .inl (by simp)) harr⟩
      | panic ch => exact ⟨_, a1, w1, ⟨φ', T', S', hq, hs1, hx1⟩, .pass (x := .inLoop c) rfl (fun _ _ => .inl (by simp)) harr⟩
      | outgrown => exact ⟨_, a1, w1, ⟨φ', T', S', hq, hs1, hx1⟩, .pass (x := .inLoop c) rfl (fun _ _ => .inl (by simp)) harr⟩
  intro b k cs
  obtain ⟨e, a', w', hq, harr⟩ := key n T S φ a w h0 hs hx b k cs
  exact ⟨e, a', w', hq, .of_steps (.one step_loop) harr⟩

/-- From one state to another that says the same of the memory, or less. -/
def Goes (n0 : Nat) (T : Nat → TV) (S : Store) (T' : Nat → TV) (S' : Store) : Prop :=
  ∀ (N : Nat) (F : Nat → Prop) (φ : Env) (a : Act) (w : World), SRep N F φ T S a w → ∃ φ', SRep N F φ' T' S' a w ∧
    ∀ (φ0 : Env) (S0 : Store) (w0 : World), (∀ id o, S0.get id = some o → id < n0) → Ext φ0 S0 w0 φ S w → Ext φ0 S0 w0 φ' S' w

theorem goes_refl (n0 : Nat) (T : Nat → TV) (S : Store) : Goes n0 T S T S := fun N F φ a w h => ⟨φ, h, fun _ _ _ _ h => h⟩
theorem Goes.trans {T1 T2 T3 : Nat → TV} {S1 S2 S3 : Store} (h : Goes n0 T1 S1 T2 S2) (k : Goes n0 T2 S2 T3 S3) : Goes n0 T1 S1 T3 S3 := fun N F φ a w hs => by
  obtain ⟨φ1, h1, x1⟩ := h N F φ a w hs
  obtain ⟨φ2, h2, x2⟩ := k N F φ1 a w h1
  exact ⟨φ2, h2, fun φ0 S0 w0 h0 hx => x2 _ _ _ h0 (x1 _ _ _ h0 hx)⟩

theorem awB_goes {c : Code} {T' : Nat → TV} {S' : Store} (hg : Goes n0 T S T' S') (h : awpB P n0 N c Q T' S') : awpB P n0 N c Q T S := by
  intro F φ a w φ0 S0 w0 h0 hs hx
  obtain ⟨φ', hs', hx'⟩ := hg N F φ a w hs
  exact h F φ' a w φ0 S0 w0 h0 hs' (hx' _ _ _ h0 hx)

/-- The loop, its state given by symbols. -/
theorem aw_loop {c : Code} {X : Type} (Tm : X → (Nat → TV)) (St : X → Store) (pre : X → Prop) (ms : X → Nat) (x0 : X) (hg : Goes n0 T S (Tm x0) (St x0)) (hp : pre x0)
    (body : ∀ x, pre x → awpB P n0 N c (Then (fun T' S' => ∃ x', Goes n0 T' S' (Tm x') (St x') ∧ pre x' ∧ ms x' < ms x) Q) (Tm x) (St x)) : awpB P n0 N (.loop c) Q T S := by
  refine awB_goes hg (awB_loop (fun n T S => ∃ x, n = ms x ∧ pre x ∧ T = Tm x ∧ S = St x) (ms x0) ⟨x0, rfl, hp, rfl, rfl⟩ ?_)
  rintro n T S ⟨x, rfl, hpx, rfl, rfl⟩
  intro F φ a w φ0 S0 w0 h0 hs hx
  refine wp_mono (body x hpx F φ a w φ0 S0 w0 h0 hs hx) ?_
  rintro e a1 w1 ⟨φ1, T1, S1, hq, hs1, hx1⟩
  cases e with
  | normal =>
    obtain ⟨x', g1, g2, g3⟩ := hq
    obtain ⟨φ2, hs2, hx2⟩ := g1 N F φ1 a1 w1 hs1
    exact ⟨φ2, _, _, ⟨ms x', g3, x', rfl, g2, rfl, rfl⟩, hs2, hx2 _ _ _ h0 hx1⟩
  | _ => exact ⟨φ1, T1, S1, hq, hs1, hx1⟩

/-- A cut: what holds between two parts, said at once for all ways there. -/
theorem aw_mid {x y : Code} {X : Type} (Tm : X → (Nat → TV)) (St : X → Store) (pre : X → Prop) (h : awpB P n0 N x (Then (fun T' S' => ∃ x', Goes n0 T' S' (Tm x') (St x') ∧ pre x') Q) T S)
    (k : ∀ x, pre x → awpB P n0 N y Q (Tm x) (St x)) : awpB P n0 N (.seq x y) Q T S := by
  refine aw_seq (awpB_mono h ?_)
  intro e T' S' hq
  cases e with
  | normal => obtain ⟨x, h1, h2⟩ := hq; exact awB_goes h1 (k x h2)
  | _ => exact hq
end rules

/-! ### what may be forgotten -/
mutual
/-- Does a symbol refer to kept objects alone? -/
def refsB (k : Nat → Bool) : SV → Bool
  | .ptr id _ _ => k id
  | .eptr id _ _ _ _ _ => k id
  | .view id _ _ _ => k id
  | .gview id len => k id || len == 0
  | .mapr id => k id
  | .agg l => refsL k l
  | .tup l => refsL k l
  | .fn _ l1 l2 => refsL k l1 && refsL k l2
  | .ifc _ v => refsB k v
  | .opt _ v => refsB k v
  | _ => true
def refsL (k : Nat → Bool) : List SV → Bool
  | [] => true
  | v :: l => refsB k v && refsL k l
end
def refsO (k : Nat → Bool) : List SObj → Bool
  | [] => true
  | .obj _ _ _ cs :: L => refsL k cs && refsO k L
  | .grow _ _ _ :: L => refsO k L
  | .gone :: L => refsO k L
  | .map _ _ :: L => false

/-- A value that stays what it is where the other objects are forgotten. -/
def Keeps (k : Nat → Bool) (v : TV) : Prop := ∀ (w : World) (M M' : Nat → Prop) (φ : Env) (S S' : Store) (x : Value), (∀ b, M' b → M b) → (∀ id, k id = true → S'.get id = S.get id) → TRep w M φ S v x → TRep w M' φ S' v x

theorem CRep.less {w : World} {M M' : Nat → Prop} (h : ∀ b, M' b → M b) {v : CV} {x : Value} (hr : CRep w M v x) : CRep w M' v x := hr.mono (fun _ _ _ => rfl) fun b _ hb => h b hb

theorem keeps_list {k : Nat → Bool} {l : List TV} (h : ∀ v ∈ l, Keeps k v) : (∀ (w : World) (M M' : Nat → Prop) (φ : Env) (S S' : Store) (cs : Array Value), (∀ b, M' b → M b) → (∀ id, k id = true → S'.get id = S.get id) →
    (∀ i (hi : i < l.length) v, cs[i]? = some v → TRep w M φ S l[i] v) → (∀ i (hi : i < l.length) v, cs[i]? = some v → TRep w M' φ S' l[i] v)) :=
  fun w M M' φ S S' cs hM hS hr i hi v hv => h _ (List.getElem_mem hi) w M M' φ S S' v hM hS (hr i hi v hv)

theorem keeps_c {k : Nat → Bool} (v : CV) : Keeps k (.c v) := fun w M M' φ S S' x hM hS h => by cases h with | c v x h => exact .c v x (h.less hM)
theorem keeps_agg {k : Nat → Bool} {l : List TV} (h : ∀ v ∈ l, Keeps k v) : Keeps k (.agg l) := fun w M M' φ S S' x hM hS hr => by
  cases hr with | agg l cs hl hr => exact .agg l cs hl (keeps_list h w M M' φ S S' cs hM hS hr)
theorem keeps_tup {k : Nat → Bool} {l : List TV} (h : ∀ v ∈ l, Keeps k v) : Keeps k (.tup l) := fun w M M' φ S S' x hM hS hr => by
  cases hr with | tup l cs hl hr => exact .tup l cs hl (keeps_list h w M M' φ S S' cs hM hS hr)
theorem keeps_fn {k : Nat → Bool} {f : Fn} {l1 l2 : List TV} (h1 : ∀ v ∈ l1, Keeps k v) (h2 : ∀ v ∈ l2, Keeps k v) : Keeps k (.fn f l1 l2) := fun w M M' φ S S' x hM hS hr => by
  cases hr with | fn f _ _ c1 c2 e1 e2 r1 r2 => exact .fn f l1 l2 c1 c2 e1 e2 (keeps_list h1 w M M' φ S S' c1 hM hS r1) (keeps_list h2 w M M' φ S S' c2 hM hS r2)
theorem keeps_ifc {k : Nat → Bool} {t : TypeId} {v : TV} (h : Keeps k v) : Keeps k (.ifc t v) := fun w M M' φ S S' x hM hS hr => by
  cases hr with | ifc t v x hr => exact .ifc t v x (h w M M' φ S S' x hM hS hr)
theorem keeps_junk {k : Nat → Bool} : Keeps k .junk := fun w M M' φ S S' x hM hS hr => .junk x
theorem keeps_taddr {k : Nat → Bool} (l : List CV) : Keeps k (.taddr l) := fun w M M' φ S S' x hM hS hr => by
  cases hr with | taddr cells b o f hf hm hr => exact .taddr l b o f hf (fun j hj hb => hm j hj (hM b hb)) fun j hj => (hr j hj).less hM
theorem keeps_ptr {k : Nat → Bool} {id g off : Nat} (h : k id = true) : Keeps k (.ptr id g off) := fun w M M' φ S S' x hM hS hr => by
  cases hr with | ptr _ _ _ a o h1 h2 h3 => exact .ptr id g off a o (by rw [hS id h]; exact h1) h2 h3
theorem keeps_view {k : Nat → Bool} {id g off len : Nat} (h : k id = true) : Keeps k (.view id g off len) := fun w M M' φ S S' x hM hS hr => by
  cases hr with | view _ _ _ _ a cap o hc he h1 h2 h3 => exact .view id g off len a cap o hc he (by rw [hS id h]; exact h1) h2 h3
theorem keeps_mapr {k : Nat → Bool} {id : Nat} (h : k id = true) : Keeps k (.mapr id) := fun w M M' φ S S' x hM hS hr => by
  cases hr with | mapr _ o h1 h2 => exact .mapr id o (by rw [hS id h]; exact h1) h2

theorem Keeps.head {k : Nat → Bool} {l : List TV} (h : ∀ v ∈ l, Keeps k v) : Keeps k (l.headD .junk) := by
  cases l with
  | nil => exact keeps_junk
  | cons x l => exact h x (by simp)

mutual
theorem refs_cells (k : Nat → Bool) : ∀ (v : SV), refsB k v = true → ∀ u ∈ v.cells, Keeps k u
  | .int _ _, _, u, hu => by simp [SV.cells] at hu; subst hu; exact keeps_c _
  | .bool _, _, u, hu => by simp [SV.cells] at hu; subst hu; exact keeps_c _
  | .tt, _, u, hu => by simp [SV.cells] at hu; subst hu; exact keeps_c _
  | .ff, _, u, hu => by simp [SV.cells] at hu; subst hu; exact keeps_c _
  | .str _, _, u, hu => by simp [SV.cells] at hu; subst hu; exact keeps_c _
  | .row _ _, _, u, hu => by simp [SV.cells] at hu; subst hu; exact keeps_c _
  | .nrow _ _ _, _, u, hu => by simp [SV.cells] at hu; subst hu; exact keeps_c _
  | .cv _, _, u, hu => by simp [SV.cells] at hu; subst hu; exact keeps_c _
  | .rptr _ _ _ _, _, u, hu => by simp [SV.cells] at hu; subst hu; exact keeps_taddr _
  | .taddr _, _, u, hu => by simp [SV.cells] at hu; subst hu; exact keeps_taddr _
  | .ptr _ _ _, h, u, hu => by simp [SV.cells] at hu; subst hu; exact keeps_ptr (by simpa [refsB] using h)
  | .eptr _ _ _ _ _ _, h, u, hu => by simp [SV.cells] at hu; subst hu; exact keeps_ptr (by simpa [refsB] using h)
  | .view _ _ _ _, h, u, hu => by simp [SV.cells] at hu; subst hu; exact keeps_view (by simpa [refsB] using h)
  | .gview id len, h, u, hu => by
    simp [SV.cells] at hu
    subst hu
    cases len with
    | zero => exact keeps_c _
    | succ n => exact keeps_view (by simpa [refsB] using h)
  | .mapr _, h, u, hu => by simp [SV.cells] at hu; subst hu; exact keeps_mapr (by simpa [refsB] using h)
  | .agg l, h, u, hu => by
    simp [SV.cells] at hu
    subst hu
    exact keeps_agg (refs_cellsL k l (by simpa [refsB] using h))
  | .tup l, h, u, hu => by
    simp [SV.cells] at hu
    subst hu
    exact keeps_tup (refs_outL k l (by simpa [refsB] using h))
  | .fn f l1 l2, h, u, hu => by
    simp [SV.cells] at hu
    subst hu
    simp [refsB] at h
    exact keeps_fn (refs_outL k l1 h.1) (refs_outL k l2 h.2)
  | .ifc t v, h, u, hu => by
    have := Keeps.head (refs_cells k v (by simpa [refsB] using h))
    simp only [SV.cells, List.mem_singleton] at hu
    subst hu
    split
    · exact keeps_c _
    · exact keeps_ifc this
  | .arr _ _ _, _, u, hu => by simp only [SV.cells, List.mem_map] at hu; obtain ⟨i, _, rfl⟩ := hu; exact keeps_c _
  | .barr _ _, _, u, hu => by simp only [SV.cells, List.mem_map] at hu; obtain ⟨i, _, rfl⟩ := hu; exact keeps_c _
  | .lst _ _, _, u, hu => by simp only [SV.cells, List.mem_map] at hu; obtain ⟨i, _, rfl⟩ := hu; exact keeps_c _
  | .opt b v, h, u, hu => by
    have := Keeps.head (refs_cells k v (by simpa [refsB] using h))
    simp only [SV.cells, List.mem_singleton] at hu
    subst hu
    cases b with
    | true => exact this
    | false => exact keeps_tup fun v hv => by simp at hv
  | .junk, _, u, hu => by simp [SV.cells] at hu; subst hu; exact keeps_junk
theorem refs_cellsL (k : Nat → Bool) : ∀ (l : List SV), refsL k l = true → ∀ u ∈ SV.cellsL l, Keeps k u
  | [], _, u, hu => by simp [SV.cellsL] at hu
  | v :: l, h, u, hu => by
    simp only [refsL, Bool.and_eq_true] at h
    simp only [SV.cellsL, List.mem_append] at hu
    rcases hu with hu | hu
    · exact refs_cells k v h.1 u hu
    · exact refs_cellsL k l h.2 u hu
theorem refs_outL (k : Nat → Bool) : ∀ (l : List SV), refsL k l = true → ∀ u ∈ SV.outL l, Keeps k u
  | [], _, u, hu => by simp [SV.outL] at hu
  | v :: l, h, u, hu => by
    simp only [refsL, Bool.and_eq_true] at h
    simp only [SV.outL, List.mem_cons] at hu
    rcases hu with hu | hu
    · subst hu
      exact Keeps.head (refs_cells k v h.1)
    · exact refs_outL k l h.2 u hu
end

theorem refs_out {k : Nat → Bool} {v : SV} (h : refsB k v = true) : Keeps k v.out := Keeps.head (refs_cells k v h)

theorem refsO_get {k : Nat → Bool} : ∀ {L : List SObj}, refsO k L = true → ∀ (i : Nat) g et esz cs, (L[i]?).bind SObj.out = some (.cells g et esz cs) → ∀ v ∈ cs, Keeps k v
  | [], _, i, g, et, esz, cs, h => by simp at h
  | o :: L, hr, 0, g, et, esz, cs, h => by
    simp at h
    cases o with
    | obj g' et' esz' c' =>
      simp [SObj.out] at h
      obtain ⟨rfl, rfl, rfl, rfl⟩ := h
      simp only [refsO, Bool.and_eq_true] at hr
      exact refs_cellsL k _ hr.1
    | grow et' t l =>
      cases hl : l.length == 0 <;> simp [SObj.out, hl] at h
      obtain ⟨rfl, rfl, rfl, rfl⟩ := h
      intro v hv
      obtain ⟨c, _, rfl⟩ := List.mem_map.1 hv
      exact keeps_c _
    | map es c => simp [SObj.out] at h
    | gone => simp [SObj.out] at h
  | o :: L, hr, i + 1, g, et, esz, cs, h => by
    refine refsO_get (L := L) ?_ i g et esz cs (by simpa using h)
    cases o <;> simp [refsO] at hr ⊢ <;> first | exact hr | exact hr.2
theorem refsO_map {k : Nat → Bool} : ∀ {L : List SObj}, refsO k L = true → ∀ (i : Nat) es c, (L[i]?).bind SObj.out ≠ some (.map es c)
  | [], _, i, es, c => by simp
  | o :: L, hr, 0, es, c => by
    cases o with
    | obj g' et' esz' c' => simp [SObj.out]
    | grow et' t l => cases hl : l.length == 0 <;> simp [SObj.out, hl]
    | map es c => simp [refsO] at hr
    | gone => simp [SObj.out]
  | o :: L, hr, i + 1, es, c => by
    have : refsO k L = true := by cases o <;> simp [refsO] at hr ⊢ <;> first | exact hr | exact hr.2
    simpa using refsO_map this i es c

/-- A reference to an object that falls away, as a value that stays. -/
def Frozen (k : Nat → Bool) (S : Store) (v : TV) (u : CV) : Prop := v = .c u ∨ (v = .c .nilsl ∧ u = .sl 0 []) ∨ ∃ (id g off len : Nat) (et : TypeId) (esz : Nat) (cs l : List CV), v = .view id g off len ∧ u = .sl len l ∧ k id = false ∧ S.at id g = some (et, esz, cs.map .c) ∧
  l.length = len * esz ∧ 0 < esz ∧ off + len * esz ≤ cs.length ∧ ∀ i (hi : i < l.length), cs[off + i]? = some l[i]

/-- The general rule: the kept objects stay, the others are forgotten, and ids may be kept free. -/
theorem goes_cut {n0 : Nat} {k : Nat → Bool} {T T' : Nat → TV} {S S' : Store} (hk : ∀ id, id < n0 → k id = true) (hsame : ∀ id, k id = true → S'.get id = S.get id) (hnone : ∀ id, k id = false → S'.get id = none) (hfr : ∀ id, S'.next ≤ id → S'.get id = none)
    (hT : ∀ t, T' t = .junk ∨ (T' t = T t ∧ Keeps k (T' t)) ∨ ∃ u, T' t = .c u ∧ Frozen k S (T t) u) (hO : ∀ id g et esz cs, S'.get id = some (.cells g et esz cs) → ∀ v ∈ cs, Keeps k v) (hM : ∀ id es c, S'.get id ≠ some (.map es c)) :
    Goes n0 T S T' S' := by
  intro N F φ a w hs
  have hcase : ∀ id, k id = true ∨ k id = false := fun id => by cases k id <;> simp
  have hlive : ∀ b, live φ S' b → live φ S b := by
    rintro b ⟨id, o, h1, h2⟩
    rcases hcase id with hl | hl
    · exact ⟨id, o, by rw [← hsame id hl]; exact h1, h2⟩
    · rw [hnone id hl] at h1; cases h1
  have hMut : ∀ b, Mut F φ S' b → Mut F φ S b := fun b h => h.imp id (hlive b)
  have hget : ∀ id o, S'.get id = some o → S.get id = some o ∧ k id = true := fun id o h => by
    rcases hcase id with hl | hl
    · rw [← hsame id hl]; exact ⟨h, hl⟩
    · rw [hnone id hl] at h; cases h
  refine ⟨φ, ⟨hs.size, fun t => ?_, hs.defers, ?_⟩, ?_⟩
  · rcases hT t with h | ⟨h1, h2⟩ | ⟨u, h1, h2⟩
    · rw [h]; exact .junk _
    · refine h2 w _ _ φ S S' _ hMut hsame ?_
      rw [h1]
      exact hs.tmps t
    · rw [h1]
      have ht := hs.tmps t
      rcases h2 with h2 | ⟨h2, rfl⟩ | ⟨id, g, off, len, et, esz, cs, l, h2, rfl, hk2, hat, hl, h0, hle, hr⟩
      · rw [h2] at ht
        exact keeps_c u w _ _ φ S S' _ hMut hsame ht
      · rw [h2] at ht
        rw [rep_nilsl ht]
        exact .c _ _ .slnil
      · rw [h2] at ht
        have hg := at_some hat
        obtain ⟨arr, a1, a2, a3, a4⟩ := obj_cell hs.store hg
        simp only [List.length_map] at a3 a4
        have hnm : ¬ Mut F φ S' (φ.blk id) := by
          rintro (hb | ⟨j, o, h1, h2⟩)
          · exact hs.store.far id _ hg hb
          · obtain ⟨h3, h4⟩ := hget j o h1
            have := hs.store.inj j id o _ h3 hg h2
            subst this
            rw [h4] at hk2
            cases hk2
        generalize hx : a.tmps.getD t undef = x at ht
        cases ht with
        | view id g off len ad cap o hcap he g1 g2 g3 =>
          rw [hg] at g1
          injection g1 with g1
          subst g1
          obtain ⟨b1, b2⟩ := g3 rfl
          by_cases hc : 0 < cap
          · rw [b1 hc]
            refine .c _ _ (.sl len l _ _ cap (fun j => arr.getD (φ.base id + off + j) undef) hcap (fun j hj => ?_) (fun j hj hb => hnm hb) (fun j hj => ?_))
            · obtain ⟨v, c1, c2, c3, c4⟩ := a4 (off + j) (by omega)
              have e : arr.getD (φ.base id + off + j) undef = v := by
                rw [Array.getD_eq_getD_getElem?, Nat.add_assoc, c1]
                rfl
              rw [e, ← c2]
              simp [Nat.add_assoc]
            · obtain ⟨v, c1, c2, c3, c4⟩ := a4 (off + j) (by omega)
              have e : arr.getD (φ.base id + off + j) undef = v := by
                rw [Array.getD_eq_getD_getElem?, Nat.add_assoc, c1]
                rfl
              rw [e]
              have hcj := hr j hj
              rw [List.getElem?_eq_getElem (by omega)] at hcj
              injection hcj with hcj
              simp only [List.getElem_map, hcj] at c4
              cases c4 with
              | c _ _ c4 => exact c4.less hMut
          · obtain ⟨b, f, rfl⟩ := he
            have hl0 : len = 0 := by omega
            subst hl0
            simp at hl
            subst hl
            exact .c _ _ (.sl _ _ _ _ _ (fun _ => undef) hcap (fun j hj => by simp at hj) (fun j hj => by simp at hj) (fun j hj => by simp at hj))
  · refine ⟨fun id o ho => ?_, hfr, fun i j o o' hi hj => hs.store.inj i j o o' (hget _ _ hi).1 (hget _ _ hj).1, fun id o ho => hs.store.far id o (hget _ _ ho).1, hs.store.old⟩
    have := hs.store.obj id o (hget _ _ ho).1
    cases o with
    | cells g et esz cs =>
      obtain ⟨arr, a1, a2, a3, a4⟩ := this
      exact ⟨arr, a1, a2, a3, fun i hi v hv => ⟨(a4 i hi v hv).1, hO id g et esz cs ho _ (List.getElem_mem hi) w _ _ φ S S' v hMut hsame (a4 i hi v hv).2⟩⟩
    | map es c => exact absurd ho (hM id es c)
  · intro φ0 S0 w0 h0 hx
    refine ⟨hx.size, hx.kept, fun b hb hl => hx.liv b hb (hlive b hl), fun id o ho => ?_, hx.os, hx.tape, hx.output⟩
    obtain ⟨o', g1, g2⟩ := hx.objs id o ho
    exact ⟨o', by rw [hsame id (hk id (h0 id o ho))]; exact g1, g2⟩

def keepL (l : List Bool) (id : Nat) : Bool := l.getD id false
def noneO : List SObj → Prop
  | [] => True
  | o :: st => o.out = none ∧ noneO st
def sameO : List Bool → List SObj → List SObj → Prop
  | [], _, st => noneO st
  | true :: k, o :: L, o' :: st => o.out = o'.out ∧ sameO k L st
  | false :: k, _ :: L, o' :: st => o'.out = none ∧ sameO k L st
  | false :: k, _ :: L, [] => sameO k L []
  | _, _, _ => False
theorem noneO_get : ∀ {st : List SObj}, noneO st → ∀ i : Nat, (st[i]?).bind SObj.out = none
  | [], _, i => by simp
  | o :: st, h, 0 => by simpa using h.1
  | o :: st, h, i + 1 => by simpa using noneO_get h.2 i
theorem sameO_get : ∀ {k : List Bool} {L st : List SObj}, sameO k L st → (∀ i : Nat, keepL k i = true → (st[i]?).bind SObj.out = (L[i]?).bind SObj.out) ∧ ∀ i : Nat, keepL k i = false → (st[i]?).bind SObj.out = none
  | [], L, st, h => ⟨fun i hi => by simp [keepL] at hi, fun i _ => noneO_get h i⟩
  | true :: k, o :: L, o' :: st, h => by
    obtain ⟨h1, h2⟩ := sameO_get h.2
    refine ⟨fun i hi => ?_, fun i hi => ?_⟩
    · cases i with
      | zero => simpa using h.1.symm
      | succ i => simpa using h1 i (by simpa [keepL] using hi)
    · cases i with
      | zero => simp [keepL] at hi
      | succ i => simpa using h2 i (by simpa [keepL] using hi)
  | false :: k, o :: L, o' :: st, h => by
    obtain ⟨h1, h2⟩ := sameO_get h.2
    refine ⟨fun i hi => ?_, fun i hi => ?_⟩
    · cases i with
      | zero => simp [keepL] at hi
      | succ i => simpa using h1 i (by simpa [keepL] using hi)
    · cases i with
      | zero => simpa using h.1
      | succ i => simpa using h2 i (by simpa [keepL] using hi)
  | false :: k, o :: L, [], h => by
    obtain ⟨h1, h2⟩ := sameO_get (k := k) (L := L) (st := []) h
    refine ⟨fun i hi => ?_, fun i hi => by simp⟩
    cases i with
    | zero => simp [keepL] at hi
    | succ i => simpa using h1 i (by simpa [keepL] using hi)
  | true :: k, [], st, h => by cases h
  | false :: k, [], st, h => by cases h
  | true :: k, o :: L, [], h => by cases h

/-- How a slot is said anew. -/
inductive SlotR (k : Nat → Bool) (L : List SObj) : SV → SV → Prop where
  | keep (a v : SV) (h : a.out = v.out) (hr : refsB k v = true) : SlotR k L a v
  | nil (t : Ty) : SlotR k L (.cv .nilsl) (.row t [])
  | gview (id len et : Nat) (t : Ty) (l : List t.den) (h : L[id]? = some (.grow et t l)) (hl : len = l.length) (hk : k id = false) : SlotR k L (.gview id len) (.row t l)
  | view (id g len et : Nat) (t : Ty) (l l' : List t.den) (h : L[id]? = some (.obj g et t.size [.lst t l])) (hl : len ≤ l.length) (he : l' = l.take len) (hk : k id = false) : SlotR k L (.view id g 0 len) (.row t l')

theorem frozen_encs {k : Nat → Bool} {S : Store} {id g len et : Nat} {t : Ty} {l : List t.den} (hk : k id = false) (h : S.at id g = some (et, t.size, (encs t l).map .c)) (hle : len ≤ l.length) : Frozen k S (.view id g 0 len) (.sl len (encs t (l.take len))) := by
  have h1 := encs_len t (l.take len)
  rw [List.length_take, Nat.min_eq_left hle] at h1
  have hm := Nat.mul_le_mul_right t.size hle
  refine .inr (.inr ⟨id, g, 0, len, et, t.size, encs t l, encs t (l.take len), rfl, rfl, hk, h, h1, Ty.size_pos t, by rw [encs_len]; omega, fun i hi => ?_⟩)
  rw [Nat.zero_add, ← List.getElem?_eq_getElem hi, ← encs_take, List.getElem?_take, if_pos (by omega)]

theorem slotR_ok {k : Nat → Bool} {L : List SObj} {a v : SV} (h : SlotR k L a v) : v.out = .junk ∨ (v.out = a.out ∧ Keeps k v.out) ∨ ∃ u, v.out = .c u ∧ Frozen k (outS L) a.out u := by
  induction h with
  | keep a v h hr => exact .inr (.inl ⟨h.symm, refs_out hr⟩)
  | nil t => exact .inr (.inr ⟨_, rfl, .inr (.inl ⟨rfl, rfl⟩)⟩)
  | gview id len et t l h hl hk =>
    subst hl
    cases hl0 : l.length with
    | zero =>
      have : l = [] := List.eq_nil_of_length_eq_zero hl0
      subst this
      exact .inr (.inr ⟨_, rfl, .inr (.inl ⟨rfl, rfl⟩)⟩)
    | succ n =>
      have hat : (outS L).at id l.length = some (et, t.size, (encs t l).map .c) := by
        have hne : (l.length == 0) = false := by rw [hl0]; rfl
        simp [Store.at, outS, h, SObj.out, hne]
      have hf := frozen_encs hk hat (Nat.le_refl _)
      rw [List.take_length] at hf
      refine .inr (.inr ⟨_, rfl, ?_⟩)
      have e : (SV.gview id (n + 1)).out = .view id l.length 0 l.length := by rw [hl0]; rfl
      rw [e]
      exact hf
  | view id g len et t l l' h hl he hk =>
    subst he
    have hat : (outS L).at id g = some (et, t.size, (encs t l).map .c) := by
      simp [Store.at, outS, h, SObj.out, SV.cellsL, SV.cells]
    have hf := frozen_encs hk hat hl
    refine .inr (.inr ⟨_, rfl, ?_⟩)
    simp only [List.length_take, Nat.min_eq_left hl]
    exact hf

def matchV (k : Nat → Bool) (L : List SObj) (V : Nat → SV) : List (Nat × SV) → Prop
  | [] => True
  | (t, v) :: l => SlotR k L (V t) v ∧ matchV k L V l
theorem look_match {k : Nat → Bool} {L : List SObj} {V : Nat → SV} : ∀ {tm : List (Nat × SV)}, matchV k L V tm → ∀ t, (look tm t).out = .junk ∨ ((look tm t).out = (V t).out ∧ Keeps k (look tm t).out) ∨ ∃ u, (look tm t).out = .c u ∧ Frozen k (outS L) (V t).out u
  | [], _, t => .inl rfl
  | (t0, v) :: l, h, t => by
    simp only [look]
    cases hb : Nat.beq t t0 with
    | true => rw [Nat.eq_of_beq_eq_true hb]; exact slotR_ok h.1
    | false => exact look_match h.2 t

theorem goes_to {n0 : Nat} {V : Nat → SV} {L st : List SObj} {tm : List (Nat × SV)} (k : List Bool) (hk : (List.range n0).all (keepL k) = true) (hro : refsO (keepL k) st = true) (hO : sameO k L st) (hV : matchV (keepL k) L V tm) :
    Goes n0 (outT V) (outS L) (outT (look tm)) (outS st) := by
  obtain ⟨h1, h2⟩ := sameO_get hO
  simp only [List.all_eq_true, List.mem_range] at hk
  refine goes_cut (k := keepL k) hk (fun id hid => h1 id hid) (fun id hid => h2 id hid) (fun id hid => ?_) (fun t => look_match hV t) (fun id g et esz cs h => refsO_get hro id g et esz cs h) (fun id es c => refsO_map hro id es c)
  simp only [outS] at hid ⊢
  rw [List.getElem?_eq_none hid]
  rfl

/-! closers -/
theorem sk {k : Nat → Bool} {L : List SObj} {a v : SV} (h : a.out = v.out) (hr : refsB k v = true) : SlotR k L a v := .keep a v h hr
theorem sk_g {k : Nat → Bool} {L : List SObj} {id len et : Nat} {t : Ty} {l l' : List t.den} (h : L[id]? = some (.grow et t l)) (hl : len = l.length) (hk : k id = false) (he : l = l') : SlotR k L (.gview id len) (.row t l') := by subst he; exact .gview id len et t l h hl hk
theorem sk_v {k : Nat → Bool} {L : List SObj} {id g len et esz : Nat} {t : Ty} {l l' : List t.den} (h : L[id]? = some (.obj g et esz [.lst t l])) (hz : esz = t.size) (hl : len = l.length) (hk : k id = false) (he : l = l') : SlotR k L (.view id g 0 len) (.row t l') := by subst hz hl he; exact .view id g _ et t l l h (Nat.le_refl _) (by rw [List.take_length]) hk
theorem sk_n {k : Nat → Bool} {L : List SObj} {t : Ty} {l : List t.den} (he : l = []) : SlotR k L (.cv .nilsl) (.row t l) := by subst he; exact .nil t
theorem q_int {k : IntKind} {a b : Int} (h : a = b) : (SV.int k a).out = (SV.int k b).out := by rw [h]
theorem q_bool {a b : Bool} (h : a = b) : (SV.bool a).out = (SV.bool b).out := by rw [h]
theorem q_row {t : Ty} {a b : List t.den} (h : a = b) : (SV.row t a).out = (SV.row t b).out := by rw [h]
theorem q_view {id g off len id' g' off' len' : Nat} (h1 : id = id') (h2 : g = g') (h3 : off = off') (h4 : len = len') : (SV.view id g off len).out = (SV.view id' g' off' len').out := by rw [h1, h2, h3, h4]
theorem q_gview {id len id' len' : Nat} (h1 : id = id') (h2 : len = len') : (SV.gview id len).out = (SV.gview id' len').out := by rw [h1, h2]
theorem q_nil {id len : Nat} (h : len = 0) : (SV.cv .nilsl).out = (SV.gview id len).out := by rw [h]; rfl
theorem q_obj {g et esz : Nat} {a b : List SV} (h : SV.cellsL a = SV.cellsL b) : (SObj.obj g et esz a).out = (SObj.obj g et esz b).out := by simp only [SObj.out, h]
theorem q_grow {et : TypeId} {t : Ty} {a b : List t.den} (h : a = b) : (SObj.grow et t a).out = (SObj.grow et t b).out := by rw [h]
theorem q_lst {g et esz : Nat} {t : Ty} {a b : List t.den} (h : a = b) : (SObj.obj g et esz [.lst t a]).out = (SObj.obj g et esz [.lst t b]).out := by rw [h]
end Go.Sim
