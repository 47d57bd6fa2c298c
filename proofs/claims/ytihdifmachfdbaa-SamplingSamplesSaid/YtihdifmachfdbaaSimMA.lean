/- A part of the proof: values and stores in plain Lean, and the rules by which a walk is taken. -/
import Derived.Test.YtihdifmachfdbaaSimM
set_option autoImplicit false
set_option linter.unusedSimpArgs false
set_option linter.unusedVariables false
namespace Go.Sim
open Go

/-! ### drawing regions whose last operations come after all others -/
section
variable {P : Program} {b : Bool} {N : Nat} {F : Nat → Prop} {φ : Env} {T T' : Nat → TV} {S S' : Store} {a : Act} {w : World} {ops : Array Oper}

theorem unlisted_split' {n i : Nat} {listed : Array Bool} (hsz : n ≤ listed.size) (hi : i < n) (hl : listed.getD i true = false) :
    ∃ l1 l2, unlisted n listed = l1 ++ i :: l2 ∧ unlisted n (listed.setIfInBounds i true) = l1 ++ l2 ∧ ∀ p ∈ l1, p < i ∧ listed.getD p true = false := by
  have hr : List.range n = List.range' 0 i ++ i :: List.range' (i + 1) (n - (i + 1)) := by
    have h1 := List.range'_append_1 (s := 0) (m := i) (n := n - (i + 1) + 1)
    rw [List.range_eq_range', ← List.range'_succ]
    simp only [Nat.zero_add] at h1
    rw [h1]
    congr 1
    omega
  have hi2 : i < listed.size := by omega
  refine ⟨(List.range' 0 i).filter fun i => !listed.getD i true, (List.range' (i + 1) (n - (i + 1))).filter fun i => !listed.getD i true, ?_, ?_, ?_⟩
  · unfold unlisted
    rw [hr, List.filter_append, List.filter_cons_of_pos (by rw [hl]; rfl)]
  · unfold unlisted
    rw [hr, List.filter_append, List.filter_cons_of_neg (by simp [hi2])]
    congr 1
    · apply List.filter_congr
      intro x hx
      simp at hx
      rw [getD_set_ne true (by omega)]
    · apply List.filter_congr
      intro x hx
      simp at hx
      rw [getD_set_ne true (by omega)]
  · intro p hp
    simp at hp
    exact ⟨by omega, by simpa using hp.2⟩

theorem getD_tf {listed : Array Bool} {p : Nat} (h : p < listed.size) (d d' : Bool) : listed.getD p d = listed.getD p d' := by
  simp [Array.getD_eq_getD_getElem?, h]

theorem wpAny_tail {Q : Exit → Act → World → Prop} {M : List Nat} {h k : Nat} (hhk : h ≤ k) (hB : ∀ i o, ops[i]? = some o → ∀ e ∈ o.after, Region.binds .any e = true → e.on < i)
    (hM : ∀ i, i < ops.size → ∀ p, p < i → drawAt P b ops M i p = true) (hS : ∀ i, k ≤ i → i < ops.size → ∀ p, p < i → h ≤ p → hasBit M i p = true) :
    ∀ (m j fuel : Nat) (listed : Array Bool) (a : Act) (w : World), k ≤ j → j + m = ops.size → m ≤ fuel → listed.size = ops.size → (∀ p, p < j → listed.getD p false = true) → (∀ p, j ≤ p → p < ops.size → listed.getD p false = false) →
      wpOps P ops Q (List.range' j m) a w → wpAny P .any ops Q fuel listed a w := by
  intro m
  induction m with
  | zero =>
    intro j fuel listed a w hkj hj hf hsz h1 h2 hw
    have hnil : Region.ready .any ops listed = [] := by
      cases hr : Region.ready .any ops listed with
      | nil => rfl
      | cons i l =>
        have hi : i ∈ Region.ready .any ops listed := by rw [hr]; simp
        obtain ⟨h0, o, ho, _⟩ := mem_ready.1 hi
        have hlt := (Array.getElem?_eq_some_iff.1 ho).1
        have := h1 i (by omega)
        rw [getD_tf (by omega) false true, h0] at this
        cases this
    simp only [List.range'_zero, wpOps] at hw
    cases fuel with
    | zero => exact ⟨hnil, hw⟩
    | succ f => exact ⟨fun _ => hw, fun i hi => by rw [hnil] at hi; simp at hi⟩
  | succ m ih =>
    intro j fuel listed a w hkj hj hf hsz h1 h2 hw
    cases fuel with
    | zero => omega
    | succ f =>
      have hjs : j < ops.size := by omega
      have hcl : ∀ q, listed.getD q false = true → ∀ o, ops[q]? = some o → ∀ e ∈ o.after, Region.binds .any e = true → listed.getD e.on false = true := fun q hq o ho e he hb => by
        have hlt := (Array.getElem?_eq_some_iff.1 ho).1
        have hqj : q < j := by
          rcases Nat.lt_or_ge q j with h' | h'
          · exact h'
          · rw [h2 q h' hlt] at hq; cases hq
        exact h1 _ (by have := hB q o ho e he hb; omega)
      have hjr : j ∈ Region.ready .any ops listed := by
        refine mem_ready.2 ⟨?_, ops[j], Array.getElem?_eq_getElem hjs, fun e he hb => h1 _ (hB j _ (Array.getElem?_eq_getElem hjs) e he hb)⟩
        rw [getD_tf (by omega) true false]
        exact h2 j (Nat.le_refl _) hjs
      refine ⟨fun hnil => (by rw [hnil] at hjr; simp at hjr), fun i hi => ?_⟩
      have hij : i = j := by
        obtain ⟨h0, o, ho, hall⟩ := mem_ready.1 hi
        have hlt := (Array.getElem?_eq_some_iff.1 ho).1
        rcases Nat.lt_trichotomy i j with h' | h' | h'
        · have := h1 i h'
          rw [getD_tf (by omega) false true, h0] at this
          cases this
        · exact h'
        · have := mask_listed hM hsz hcl i o ho hall j h' (hS i (by omega) hlt j h' (by omega))
          rw [h2 j (Nat.le_refl _) hjs] at this
          cases this
      subst hij
      rw [List.range'_succ, wpOps_cons] at hw
      refine wpOp_mono (fun a' w' h' => ?_) hw
      refine ih (i + 1) f (listed.setIfInBounds i true) a' w' (by omega) (by omega) (by omega) (by simp [hsz]) (fun p hp => ?_) (fun p hp hps => ?_) h'
      · by_cases e : p = i
        · subst e
          simp [Array.getD_eq_getD_getElem?, hsz, hjs]
        · rw [getD_set_ne false (Ne.symm e)]
          exact h1 p (by omega)
      · rw [getD_set_ne false (by omega)]
        exact h2 p (by omega) hps

theorem wpAny_cut {Q : Exit → Act → World → Prop} {M : List Nat} {h k : Nat} (hhk : h ≤ k) (hk : k ≤ ops.size) (hN : ops.all (dstOk N) = true) (hB : ∀ i o, ops[i]? = some o → ∀ e ∈ o.after, Region.binds .any e = true → e.on < i)
    (hM : ∀ i, i < ops.size → ∀ p, p < i → drawAt P b ops M i p = true) (hS : ∀ i, k ≤ i → i < ops.size → ∀ p, p < i → h ≤ p → hasBit M i p = true) {s' : St} :
    ∀ (n fuel : Nat) (listed : Array Bool), listed.size = ops.size → (unlisted k listed).length = n → n + (ops.size - k) ≤ fuel →
    (∀ j, listed.getD j false = true → ∀ o, ops[j]? = some o → ∀ e ∈ o.after, Region.binds .any e = true → listed.getD e.on false = true) → (∀ p, k ≤ p → p < ops.size → listed.getD p false = false) → (∀ p, p < h → listed.getD p false = true) →
    ∀ (φ : Env) (T : Nat → TV) (S : Store) (a : Act) (w : World), RunD P b ops (unlisted k listed) (T, S) s' → SRep N F φ T S a w →
    (∀ φ' a' w', SRep N F φ' s'.1 s'.2 a' w' → Ext φ S w φ' s'.2 w' → wpOps P ops Q (List.range' k (ops.size - k)) a' w') → wpAny P .any ops Q fuel listed a w := by
  intro n
  induction n with
  | zero =>
    intro fuel listed hsz hlen hf hcl hfa hfh φ T S a w hrun hs hq
    have hnil : unlisted k listed = [] := List.eq_nil_of_length_eq_zero hlen
    rw [hnil] at hrun
    simp only [RunD] at hrun
    subst hrun
    refine wpAny_tail hhk hB hM hS (ops.size - k) k fuel listed a w (Nat.le_refl _) (by omega) (by omega) hsz (fun p hp => ?_) hfa (hq φ a w hs (Ext.refl φ S w))
    cases hg : listed.getD p false with
    | true => rfl
    | false =>
      have : p ∈ unlisted k listed := by
        simp only [unlisted, List.mem_filter, List.mem_range, Bool.not_eq_true']
        exact ⟨hp, by rw [getD_tf (by omega) true false]; exact hg⟩
      rw [hnil] at this
      simp at this
  | succ n ih =>
    intro fuel listed hsz hlen hf hcl hfa hfh φ T S a w hrun hs hq
    cases fuel with
    | zero => omega
    | succ fuel =>
      obtain ⟨i0, l0, hu⟩ : ∃ i l, unlisted k listed = i :: l := by
        cases hu : unlisted k listed with
        | nil => rw [hu] at hlen; simp at hlen
        | cons i l => exact ⟨i, l, rfl⟩
      have hmem0 : i0 < k ∧ listed.getD i0 true = false := by
        have hmem : i0 ∈ unlisted k listed := by rw [hu]; simp
        simpa only [unlisted, List.mem_filter, List.mem_range, Bool.not_eq_true'] using hmem
      refine ⟨fun hnil => ?_, fun i hi => ?_⟩
      · exfalso
        have hpw : (unlisted k listed).Pairwise (· < ·) := List.Pairwise.filter _ List.pairwise_lt_range
        rw [hu, List.pairwise_cons] at hpw
        have hlt0 : i0 < ops.size := by omega
        have : i0 ∈ Region.ready .any ops listed := by
          refine mem_ready.2 ⟨hmem0.2, ops[i0], Array.getElem?_eq_getElem hlt0, fun e he hb => ?_⟩
          have hlt := hB i0 _ (Array.getElem?_eq_getElem hlt0) e he hb
          cases hg : listed.getD e.on true with
          | true => rw [getD_tf (by omega) false true]; exact hg
          | false =>
            have : e.on ∈ unlisted k listed := by
              simp only [unlisted, List.mem_filter, List.mem_range, Bool.not_eq_true']
              exact ⟨by omega, hg⟩
            rw [hu] at this
            rcases List.mem_cons.1 this with h' | h'
            · omega
            · have := hpw.1 _ h'
              omega
        rw [hnil] at this
        simp at this
      · obtain ⟨h0, o, ho, hall⟩ := mem_ready.1 hi
        have hlt := (Array.getElem?_eq_some_iff.1 ho).1
        have hik : i < k := by
          rcases Nat.lt_or_ge i k with h' | h'
          · exact h'
          · exfalso
            have hi0 : h ≤ i0 := by
              rcases Nat.lt_or_ge i0 h with h2 | h2
              · have := hfh i0 h2
                rw [getD_tf (by omega) false true, hmem0.2] at this
                cases this
              · exact h2
            have := mask_listed hM hsz hcl i o ho hall i0 (by omega) (hS i h' hlt i0 (by omega) hi0)
            rw [getD_tf (by omega) false true, hmem0.2] at this
            cases this
        obtain ⟨l1, l2, e1, e2, hl1⟩ := unlisted_split' (n := k) (by omega) hik h0
        rw [e1] at hrun
        have hpair : ∀ p ∈ l1, pairOk P b ops p i = true := by
          intro p hp
          obtain ⟨hpi, hpl⟩ := hl1 p hp
          have := hM i hlt p hpi
          unfold drawAt at this
          cases hb : hasBit M i p with
          | false => simpa [hb] using this
          | true =>
            have := mask_listed hM hsz hcl i o ho hall p hpi hb
            rw [getD_tf (by omega) false true, hpl] at this
            cases this
        obtain ⟨o', s1, g1, g2, g3⟩ := run_first l1 i l2 o (T, S) s' ho hpair hs.store.fresh (ev_live hs o.op) hrun
        rw [ho] at g1
        injection g1 with g1
        subst g1
        have hd : dstOk N o = true := by
          rw [Array.all_eq_true] at hN
          obtain ⟨hi, rfl⟩ := Array.getElem?_eq_some_iff.1 ho
          exact hN i hi
        refine step_ok ho hd g2 hs fun φ' a' w' hs' hx' => ?_
        refine ih fuel (listed.setIfInBounds i true) (by simp [hsz]) ?_ (by omega) ?_ (fun p hp hps => by rw [getD_set_ne false (by omega)]; exact hfa p hp hps) (fun p hp => getD_set_true (hfh p hp)) φ' s1.1 s1.2 a' w' (by rw [e2]; exact g3) hs' fun φ2 a2 w2 hs2 hx2 => hq φ2 a2 w2 hs2 (hx'.trans hx2)
        · rw [e2]
          rw [e1] at hlen
          simp at hlen ⊢
          omega
        · intro j hj oj hoj e he hb
          by_cases hji : j = i
          · subst hji
            rw [ho] at hoj
            injection hoj with hoj
            subst hoj
            exact getD_set_true (hall e he hb)
          · rw [getD_set_ne false (Ne.symm hji)] at hj
            exact getD_set_true (hcl j hj oj hoj e he hb)

/-- The first i operations are done. -/
def firstN (n i : Nat) : Array Bool := ((List.range n).map fun j => decide (j < i)).toArray
def plainMove (o : Oper) : Bool := match o.op, o.guard, o.dst with
  | .move (.tmp _), none, some _ => true
  | _, _, _ => false
def hoistOk (ops : Array Oper) (h : Nat) : Bool := (List.range h).all fun i => (match ops[i]? with | some o => plainMove o | none => false) && Region.free .any ops (firstN ops.size i) i && (Region.ready .any ops (firstN ops.size i)).contains i
def cutOk (P : Program) (b : Bool) (ops : Array Oper) (h k : Nat) : Bool := (bif Nat.beq h 0 then true else Region.noSelect ops && hoistOk ops h) && cutOkM P b ops h k (maskOf ops)
where
  cutOkM (P : Program) (b : Bool) (ops : Array Oper) (h k : Nat) (M : List Nat) : Bool :=
    decide (h ≤ k) && decide (k ≤ ops.size) && (List.range ops.size).all fun i => backAt ops i && (List.range i).all fun p => drawAt P b ops M i p && (decide (i < k) || decide (p < h) || hasBit M i p)

theorem firstN_set {n i : Nat} (hi : i < n) : (firstN n i).setIfInBounds i true = firstN n (i + 1) := by
  apply Array.ext
  · simp [firstN]
  · intro j h1 h2
    simp only [firstN, List.setIfInBounds_toArray, List.getElem_toArray, List.getElem_set, List.getElem_map, List.getElem_range]
    by_cases e : i = j
    · subst e; simp
    · rw [if_neg e]
      by_cases e2 : j < i
      · simp [e2, show j < i + 1 by omega]
      · simp [e2, show ¬ j < i + 1 by omega]
theorem firstN_get {n i j : Nat} (hj : j < n) (d : Bool) : (firstN n i).getD j d = decide (j < i) := by
  simp [firstN, Array.getD_eq_getD_getElem?, hj]

theorem opsD_runP : ∀ (l : List Oper) (k : Nat), (∀ (i : Nat) (h : i < l.length), ops[k + i]? = some l[i]) → ∀ (K : (Nat → TV) → Store → Prop) (T : Nat → TV) (S : Store), opsD P b ops l K T S → ∃ s' : St, RunD P b ops (List.range' k l.length) (T, S) s' ∧ K s'.1 s'.2 := by
  intro l
  induction l with
  | nil => intro k hk K T S h; exact ⟨(T, S), rfl, h⟩
  | cons o os ih =>
    intro k hk K T S h
    have ho : ops[k]? = some o := by
      have := hk 0 (by simp)
      rw [Nat.add_zero] at this
      rw [this]
      rfl
    have hk' : ∀ (i : Nat) (h : i < os.length), ops[k + 1 + i]? = some os[i] := fun i hi => by
      have := hk (i + 1) (by simpa using hi)
      rw [show k + (i + 1) = k + 1 + i by omega] at this
      simpa using this
    have key : ∃ s1 : St, StepD P b ops o (T, S) s1 ∧ opsD P b ops os K s1.1 s1.2 := by
      simp only [opsD] at h
      split at h
      · rename_i hg
        exact stepD_run (by simp [wantedA, hg]) h
      · rename_i j want hg
        split at h
        · rename_i b hb
          split at h
          · rename_i he
            exact stepD_run (by simp [wantedA, hg, hb, he]) h
          · rename_i he
            exact ⟨_, .skip (by simp [wantedA, hg, hb, he]), h⟩
        · exact h.elim
    obtain ⟨s1, h1, h2⟩ := key
    obtain ⟨s', h3, h4⟩ := ih (k + 1) hk' K s1.1 s1.2 h2
    exact ⟨s', ⟨o, s1, ho, h1, h3⟩, h4⟩

theorem hoist {Q : Exit → Act → World → Prop} (hN : ops.all (dstOk N) = true) (hsel : Region.noSelect ops = true) (hQ : ∀ c a w, ¬ Q (.panic c) a w) {h : Nat} (hh : hoistOk ops h = true) (hle : h ≤ ops.size) {K : (Nat → TV) → Store → Prop} :
    ∀ (m i : Nat) (φ : Env) (T : Nat → TV) (S : Store) (a : Act) (w : World), i + m = h → opsD P b ops ((ops.toList.drop i).take m) K T S → SRep N F φ T S a w →
      (∀ T' a', K T' S → SRep N F φ T' S a' w → wpAny P .any ops Q (ops.size - h) (firstN ops.size h) a' w) → wpAny P .any ops Q (ops.size - i) (firstN ops.size i) a w := by
  intro m
  induction m with
  | zero =>
    intro i φ T S a w him hop hs hk
    simp at him
    subst him
    simp only [List.take_zero, opsD] at hop
    exact hk T a hop hs
  | succ m ih =>
    intro i φ T S a w him hop hs hk
    have hi : i < ops.size := by omega
    simp only [hoistOk, List.all_eq_true, List.mem_range, Bool.and_eq_true] at hh
    obtain ⟨⟨h1, h2⟩, h3⟩ := hh i (by omega)
    have hoi : ops[i]? = some ops[i] := Array.getElem?_eq_getElem hi
    have hdr : (ops.toList.drop i).take (m + 1) = ops[i] :: (ops.toList.drop (i + 1)).take m := by
      rw [List.drop_eq_getElem_cons (by simpa using hi)]
      simp
    rw [hdr] at hop
    rw [hoi] at h1
    simp only at h1
    unfold plainMove at h1
    split at h1
    · rename_i t d ho hg hd
      simp only [opsD, hg, stepD, ho, evalPrim] at hop
      have hy : Yields P ops ops[i] (a.eval (.tmp t)) a := .inl ⟨by simp [Region.wanted, hg], fun w => by simp [execOp, ho]⟩
      have hdN : dstOk N ops[i] = true := by
        rw [Array.all_eq_true] at hN
        exact hN i hi
      have hs' := hs.put (dst := ops[i].dst) (Ext.refl φ S w) hs.store (fun d' e => by have := hdN; unfold dstOk at this; rw [e] at this; simpa using this) (ev_rep hs (.tmp t))
      have := ih (i + 1) φ _ S _ w (by omega) hop hs' hk
      rw [← firstN_set hi] at this
      rw [show ops.size - i = (ops.size - (i + 1)) + 1 by omega]
      exact wpAny_take hoi hsel h2 h3 (fun c a w hq => absurd hq (hQ c _ w)) hy this
    · cases h1

theorem awp_region_cut {id h k : Nat} {l0 l1 l2 : List Oper} {Q : Exit → (Nat → TV) → Store → Prop} (hm : P.follows .mixedOrders = true) (hN : ops.all (dstOk N) = true) (hd : cutOk P b ops h k = true) (h0 : ops.toList.take h = l0) (h1 : (ops.toList.take k).drop h = l1) (h2 : ops.toList.drop k = l2)
    (hw : opsD P b ops l0 (fun T S => opsD P b ops l1 (fun T S => opsWp P N ops l2 (fun T S => Q .normal T S) T S) T S) T S) : awp P N (.region id ops true) Q T S := by
  intro F φ a w hs
  refine wp_mono (Q := fun e a' w' => e = .normal ∧ ∃ φ' T' S', Q e T' S' ∧ SRep N F φ' T' S' a' w' ∧ Ext φ S { w with drawn := w.drawn + 1 } φ' S' w') ?_ fun _ _ _ ⟨_, φ', T', S', q1, q2, hx⟩ => ⟨φ', T', S', q1, q2, ⟨hx.size, hx.kept, hx.liv, hx.objs, hx.os, hx.tape, hx.output⟩⟩
  refine wp_region_any hm ?_
  simp only [cutOk, cutOk.cutOkM, List.all_eq_true, List.mem_range, Bool.and_eq_true, Bool.or_eq_true, decide_eq_true_eq] at hd
  obtain ⟨hho, ⟨hhk, hk⟩, hd⟩ := hd
  have hl1 : l1.length = k - h := by rw [← h1]; simp; omega
  have hl2 : l2.length = ops.size - k := by rw [← h2]; simp
  have main : ∀ (T : Nat → TV) (S0 : Store) (a : Act) (w0 : World) (φ0 : Env), SRep N F φ0 T S0 a w0 → opsD P b ops l1 (fun T S => opsWp P N ops l2 (fun T S => Q .normal T S) T S) T S0 →
      wpAny P .any ops (fun e a' w' => e = .normal ∧ ∃ φ' T' S', Q e T' S' ∧ SRep N F φ' T' S' a' w' ∧ Ext φ0 S0 w0 φ' S' w') (ops.size - h) (firstN ops.size h) a w0 := by
    intro T S0 a w0 φ0 hs hw
    obtain ⟨s', hr, hK⟩ := opsD_runP l1 h (fun i hi => by
      subst h1
      simp at hi
      have : h + i < ops.size := by omega
      simp [List.getElem_take, this]) _ T S0 hw
    have hu : unlisted k (firstN ops.size h) = List.range' h l1.length := by
      unfold unlisted
      rw [hl1]
      have e1 : List.range k = List.range' 0 h ++ List.range' h (k - h) := by
        rw [List.range_eq_range']
        have := List.range'_append_1 (s := 0) (m := h) (n := k - h)
        simp only [Nat.zero_add] at this
        rw [this]
        congr 1
        omega
      rw [e1, List.filter_append]
      have e2 : (List.range' 0 h).filter (fun i => !(firstN ops.size h).getD i true) = [] := by
        rw [List.filter_eq_nil_iff]
        intro i hi
        simp at hi
        rw [firstN_get (by omega)]
        simp [hi]
      have e3 : (List.range' h (k - h)).filter (fun i => !(firstN ops.size h).getD i true) = List.range' h (k - h) := by
        rw [List.filter_eq_self]
        intro i hi
        simp at hi
        rw [firstN_get (by omega)]
        simp
        omega
      rw [e2, e3, List.nil_append]
    have hB : ∀ i o, ops[i]? = some o → ∀ e ∈ o.after, Region.binds .any e = true → e.on < i := by
      intro i o ho e he hb
      have hi := (Array.getElem?_eq_some_iff.1 ho).1
      have := (hd i hi).1
      unfold backAt at this
      simp only [ho, Array.all_eq_true_iff_forall_mem] at this
      have := this e he
      simpa [hb] using this
    refine wpAny_cut (M := maskOf ops) (h := h) hhk hk hN hB (fun i hi p hp => ((hd i hi).2 p hp).1) (fun i hki hi p hp hhp => ((hd i hi).2 p hp).2.resolve_left (by omega)) (k - h) (ops.size - h) _ (by simp [firstN]) (by rw [hu]; simp [hl1]) (by omega) ?_ ?_ ?_ φ0 T S0 a _ (by rw [hu]; exact hr) hs fun φ' a' w' hs' hx' => ?_
    · intro j hj o ho e he hb
      have hlt := (Array.getElem?_eq_some_iff.1 ho).1
      have := hB j o ho e he hb
      rw [firstN_get hlt, decide_eq_true_eq] at hj
      rw [firstN_get (by omega), decide_eq_true_eq]
      omega
    · intro p hkp hp
      rw [firstN_get hp]
      simp
      omega
    · intro p hp
      rw [firstN_get (by omega)]
      simp [hp]
    · rw [← hl2]
      exact wpOps_of (Q := fun e a' w' => e = .normal ∧ ∃ φ' T' S', Q e T' S' ∧ SRep N F φ' T' S' a' w' ∧ Ext φ0 S0 w0 φ' S' w') hN l2 k h2 _ F φ' s'.1 s'.2 a' w' hK hs' fun φ2 T2 S2 a2 w2 k2 s2 x2 => ⟨rfl, φ2, T2, S2, k2, s2, hx'.trans x2⟩
  have e0 : Array.replicate ops.size false = firstN ops.size 0 := by
    apply Array.ext
    · simp [firstN]
    · intro j h1 h2
      simp [firstN]
  rw [e0]
  have hs2 : SRep N F φ T S a { w with drawn := w.drawn + 1 } := ⟨hs.size, fun t => (hs.tmps t).drawn, hs.defers, hs.store.drawn⟩
  have fin := fun T' a' hs' hw' => main T' S a' { w with drawn := w.drawn + 1 } φ hs' hw'
  by_cases hz : h = 0
  · subst hz
    simp at h0
    subst h0
    simp only [opsD] at hw
    exact fin T a hs2 hw
  · have hnb : Nat.beq h 0 = false := by cases hb : Nat.beq h 0 with
      | true => exact absurd (Nat.eq_of_beq_eq_true hb) hz
      | false => rfl
    rw [hnb] at hho
    simp only [cond_false, Bool.and_eq_true] at hho
    have := hoist (P := P) (b := b) (F := F) (Q := fun e a' w' => e = .normal ∧ ∃ φ' T' S', Q e T' S' ∧ SRep N F φ' T' S' a' w' ∧ Ext φ S { w with drawn := w.drawn + 1 } φ' S' w') hN hho.1 (fun c a w hq => by simp at hq) hho.2 (by omega) h 0 φ T S a { w with drawn := w.drawn + 1 } (by omega) (by simpa using (h0 ▸ hw)) hs2 fun T' a' hw' hs' => fin T' a' hs' hw'
    simpa using this
theorem stepD_mono {o : Oper} {K K' : (Nat → TV) → Store → Prop} (hk : ∀ T S, K T S → K' T S) (h : stepD P b o K T S) : stepD P b o K' T S := by
  unfold stepD at h ⊢
  split at h
  · exact hk _ _ h
  · obtain ⟨g, avs, r, h1, h2, h3, h4⟩ := h
    exact ⟨g, avs, r, h1, h2, h3, hk _ _ h4⟩
theorem opsD_mono : ∀ (l : List Oper) {K K' : (Nat → TV) → Store → Prop} {T : Nat → TV} {S : Store}, (∀ T S, K T S → K' T S) → opsD P b ops l K T S → opsD P b ops l K' T S
  | [], K, K', T, S, hk, h => hk _ _ h
  | o :: os, K, K', T, S, hk, h => by
    simp only [opsD] at h ⊢
    split at h
    · exact stepD_mono (fun T S h => opsD_mono os hk h) h
    · split at h
      · split at h
        · rename_i e
          rw [if_pos e]
          exact stepD_mono (fun T S h => opsD_mono os hk h) h
        · rename_i e
          rw [if_neg e]
          exact opsD_mono os hk h
      · exact h.elim
end
end Go.Sim
