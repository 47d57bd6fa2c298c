/- A part of the proof: values and stores in plain Lean, and the rules by which a walk is taken. -/
import Derived.Test.YtihdifmachfdbaaSimK
set_option autoImplicit false
set_option linter.unusedSimpArgs false
set_option linter.unusedVariables false
namespace Go.Sim
open Go

/-! ### regions in the text's order -/
def stepWp (P : Program) (N : Nat) (o : Oper) (K : (Nat → TV) → Store → Prop) (T : Nat → TV) (S : Store) : Prop :=
  (∃ v S', evalPrim P T S o.op = some (v, S') ∧ K (put T o.dst v) S') ∨ awpOp P N o K T S

/-- What a guard's slot says: its truth value, or that the operation there was passed over. -/
def guardVal (ops : Array Oper) (T : Nat → TV) (j : Nat) : Option (Option Bool) := match (ops[j]?).bind (·.dst) with
  | some t => match T t with
    | .c (.bool b) => some (some b)
    | .tup [] => some none
    | _ => none
  | none => none

/-- The slot of an operation that was passed over. -/
abbrev TV.und : TV := .tup []

def opsWp (P : Program) (N : Nat) (ops : Array Oper) : List Oper → ((Nat → TV) → Store → Prop) → (Nat → TV) → Store → Prop
  | [], K, T, S => K T S
  | o :: os, K, T, S => match o.guard with
    | none => stepWp P N o (opsWp P N ops os K) T S
    | some (j, want) => match guardVal ops T j with
      | some b => if b = some want then stepWp P N o (opsWp P N ops os K) T S else opsWp P N ops os K (put T o.dst .und) S
      | none => False

section
variable {P : Program} {N : Nat} {F : Nat → Prop} {φ : Env} {T : Nat → TV} {S : Store} {a : Act} {w : World} {M : Nat → Prop}

theorem stepWp_ok {o : Oper} {K : (Nat → TV) → Store → Prop} (hd : dstOk N o = true) (h : stepWp P N o K T S) : awpOp P N o K T S := by
  rcases h with ⟨v, S', he, hk⟩ | h
  · exact evalPrim_ok hd he hk
  · exact h

theorem und_rep : TRep w M φ S .und undef := .tup [] #[] rfl fun i hi => absurd hi (by simp)

theorem guardVal_ok (hs : SRep N F φ T S a w) {ops : Array Oper} {j : Nat} {b : Option Bool} (h : guardVal ops T j = some b) : yielded ops a.tmps j = b := by
  unfold guardVal at h
  split at h
  · rename_i t ht
    have hr := hs.tmps t
    split at h
    · rename_i b' hb
      simp at h
      subst h
      rw [hb] at hr
      have := rep_bool hr
      have hlt : t < a.tmps.size := by
        rcases Nat.lt_or_ge t a.tmps.size with hl | hl
        · exact hl
        · rw [Array.getD_eq_getD_getElem?, Array.getElem?_eq_none hl] at this
          simp [undef] at this
      have hget : a.tmps[t]? = some (.bool b') := by
        rw [Array.getD_eq_getD_getElem?, Array.getElem?_eq_getElem hlt] at this
        simp at this
        rw [Array.getElem?_eq_getElem hlt, this]
      unfold yielded
      rw [ht]
      simp [hget]
    · rename_i hb
      simp at h
      subst h
      rw [hb] at hr
      unfold yielded
      rw [ht]
      rw [Array.getD_eq_getD_getElem?] at hr
      simp only [Option.bind_some]
      cases hg : a.tmps[t]? with
      | none => rfl
      | some x =>
        rw [hg] at hr
        simp only [Option.getD_some] at hr
        cases hr
        rfl
    · simp at h
  · simp at h

theorem wpOps_of {ops : Array Oper} {Q : Exit → Act → World → Prop} (hN : ops.all (dstOk N) = true) : ∀ (l : List Oper) (k : Nat), ops.toList.drop k = l → ∀ (K : (Nat → TV) → Store → Prop) (F : Nat → Prop) (φ : Env) (T : Nat → TV) (S : Store) (a : Act) (w : World),
    opsWp P N ops l K T S → SRep N F φ T S a w → (∀ φ' T' S' a' w', K T' S' → SRep N F φ' T' S' a' w' → Ext φ S w φ' S' w' → Q .normal a' w') →
      wpOps P ops Q (List.range' k l.length) a w := by
  intro l
  induction l with
  | nil =>
    intro k hk K F φ T S a w h hs hq
    exact hq φ T S a w h hs (Ext.refl φ S w)
  | cons o os ih =>
    intro k hk K F φ T S a w h hs hq
    have ho : ops[k]? = some o := by
      have := congrArg (·[0]?) hk
      simpa using this
    have hk' : ops.toList.drop (k + 1) = os := by
      have := congrArg List.tail hk
      simpa using this
    have hd : dstOk N o = true := by
      rw [Array.all_eq_true] at hN
      obtain ⟨hi, rfl⟩ := Array.getElem?_eq_some_iff.1 ho
      exact hN k hi
    simp only [List.length_cons, List.range'_succ, wpOps, ho]
    have step : awpOp P N o (opsWp P N ops os K) T S → (o.wp P a w (wpOps P ops Q (List.range' (k + 1) os.length)) Q ∨ (o.asks P a w ∧ LetsOut Q)) := fun hst =>
      .inl (upon_mono (fun a' w' ⟨φ', T', S', h1, h2, h3⟩ => ih (k + 1) hk' K F φ' T' S' a' w' h1 h2 fun φ2 T2 S2 a2 w2 k2 s2 x2 => hq φ2 T2 S2 a2 w2 k2 s2 (h3.trans x2)) (fun _ _ _ h => h.elim) (hst F φ a w hs))
    simp only [opsWp] at h
    split at h
    · rename_i hg
      have hw : Region.wanted o (yielded ops a.tmps) = true := by simp [Region.wanted, hg]
      rw [if_pos hw]
      exact step (stepWp_ok hd h)
    · rename_i j want hg
      split at h
      · rename_i b hb
        have hy := guardVal_ok hs hb
        split at h
        · rename_i he
          have hw : Region.wanted o (yielded ops a.tmps) = true := by simp [Region.wanted, hg, hy, he]
          rw [if_pos hw]
          exact step (stepWp_ok hd h)
        · rename_i he
          have hw : ¬ Region.wanted o (yielded ops a.tmps) = true := by simp [Region.wanted, hg, hy, he]
          rw [if_neg hw]
          have hs' : SRep N F φ (put T o.dst .und) S (a.put o.dst undef) w := hs.put (Ext.refl φ S w) hs.store (fun d e => by simpa [dstOk, e] using hd) und_rep
          exact ih (k + 1) hk' K F φ _ S _ w h hs' hq
      · exact h.elim

theorem awp_region {id : Nat} {ops : Array Oper} {Q : Exit → (Nat → TV) → Store → Prop} (hN : ops.all (dstOk N) = true) (h : opsWp P N ops ops.toList (Q .normal) T S) : awp P N (.region id ops false) Q T S := by
  intro F φ a w hs
  refine wp_region ?_
  have := wpOps_of (Q := fun e a' w' => ∃ φ' T' S', Q e T' S' ∧ SRep N F φ' T' S' a' w' ∧ Ext φ S w φ' S' w') hN ops.toList 0 (by simp) (Q .normal) F φ T S a w h hs (fun φ' T' S' a' w' k s x => ⟨φ', T', S', k, s, x⟩)
  simpa [List.range_eq_range'] using this

theorem awp_if {c : Operand} {x y : Code} {Q : Exit → (Nat → TV) → Store → Prop} {b : Bool} (hc : ev T c = .c (.bool b)) (h : awp P N (if b then x else y) Q T S) : awp P N (.cond c x y) Q T S :=
  awp_cond (b := b) (fun F φ a w hs => by
    have := ev_rep hs c
    rw [hc] at this
    exact rep_bool this) h

/-! ### calls -/
def ListRep (w : World) (M : Nat → Prop) (φ : Env) (S : Store) (l : List TV) (xs : List Value) : Prop := l.length = xs.length ∧ ∀ i (hi : i < l.length) y, xs[i]? = some y → TRep w M φ S l[i] y

theorem ListRep.append {l1 l2 : List TV} {x1 x2 : List Value} (h1 : ListRep w M φ S l1 x1) (h2 : ListRep w M φ S l2 x2) : ListRep w M φ S (l1 ++ l2) (x1 ++ x2) := by
  refine ⟨by simp [h1.1, h2.1], fun i hi y hy => ?_⟩
  by_cases hc : i < l1.length
  · rw [List.getElem_append_left hc]
    rw [List.getElem?_append_left (by rw [← h1.1]; exact hc)] at hy
    exact h1.2 i hc y hy
  · rw [List.getElem_append_right (by omega)]
    rw [List.getElem?_append_right (by rw [← h1.1]; omega)] at hy
    simp at hi
    exact h2.2 _ (by omega) y (by rw [← hy, h1.1])

def ACall (P : Program) (g : FuncId) (avs : List TV) (S : Store) (R : TV → Store → Prop) : Prop :=
  ∀ (F : Nat → Prop) (φ : Env) (w : World) (args : Array Value), StoreOK F φ S w → ListRep w (Mut F φ S) φ S avs args.toList →
    Calls P g args w fun e w' => ∃ x r S' φ', e = .returned x ∧ R r S' ∧ TRep w' (Mut F φ' S') φ' S' r x ∧ StoreOK F φ' S' w' ∧ Ext φ S w φ' S' w'

theorem ACall.mono {g : FuncId} {avs : List TV} {R R' : TV → Store → Prop} (h : ACall P g avs S R) (hr : ∀ r S', R r S' → R' r S') : ACall P g avs S R' :=
  fun F φ w args hok hl => (h F φ w args hok hl).mono fun _ _ ⟨x, r, S', φ', e, h1, h2⟩ => ⟨x, r, S', φ', e, hr _ _ h1, h2⟩

def isFunc (P : Program) (g : FuncId) : Bool := match P.funcs[g]? with
  | some fn => !(fn.name == "runtime.NumGoroutine") && fn.body.isSome
  | none => false

theorem run_call {g : FuncId} {args : Array Value} (h : isFunc P g = true) : (callFunc g args).run P w = .ok (.enter g args) w := by
  unfold isFunc at h
  unfold callFunc
  simp only [Sem.run_bind, run_program, Result.andThen_ok]
  cases hf : P.funcs[g]? with
  | none => simp [hf] at h
  | some fn =>
    simp only [hf, Bool.and_eq_true, Bool.not_eq_true'] at h
    have hb : fn.body.isNone = false := by cases hb : fn.body <;> simp [hb] at h ⊢
    simp [h.1, hb]

theorem awpOp_call {o : Oper} {c : Call} {f : Operand} {g : FuncId} {l1 l2 : List TV} {K : (Nat → TV) → Store → Prop} {R : TV → Store → Prop} (hd : dstOk N o = true) (ho : o.op = .call c) (hcal : c.callee = .value f)
    (hf : ev T f = .fn (.func g) l1 l2) (hg : isFunc P g = true) (hA : ACall P g (l1 ++ c.args.toList.map (ev T) ++ l2) S R) (hK : ∀ r S', R r S' → K (put T o.dst r) S') : awpOp P N o K T S := by
  intro F φ a w hs
  have hfr := ev_rep hs f
  rw [hf] at hfr
  generalize hx : a.eval f = x at hfr
  cases hfr with
  | fn _ _ _ c1 c2 hl1 hl2 h1 h2 =>
    have hrun : (execOp a.eval o).run P w = .ok (.enter g (c1 ++ c.args.map a.eval ++ c2)) w := by
      simp only [execOp, ho, resolve, hcal, hx, Deferred.ofValue, Sem.run_bind, Sem.run_pure, Result.andThen_ok, invoke]
      exact run_call hg
    unfold Oper.wp
    rw [hrun, Oper.upon_enter]
    have ha := args_ok hs c.args
    have hlr : ListRep w (Mut F φ S) φ S (l1 ++ c.args.toList.map (ev T) ++ l2) (c1 ++ c.args.map a.eval ++ c2).toList := by
      simp only [Array.toList_append]
      refine ListRep.append (ListRep.append ⟨by simp [hl1], fun i hi y hy => h1 i hi y (by simpa using hy)⟩ ⟨ha.1, ha.2⟩) ⟨by simp [hl2], fun i hi y hy => h2 i hi y (by simpa using hy)⟩
    refine Calls.mono (hA F φ w _ hs.store hlr) ?_
    rintro e w' ⟨x, r, S', φ', rfl, hR, hr, hok, hxt⟩
    exact ⟨φ', _, S', hK r S' hR, hs.put hxt hok (fun d e => by simpa [dstOk, e] using hd) hr, hxt⟩

/-! ### functions -/
def resOf (P : Program) (T : Nat → TV) (S : Store) : ResultVar → Option TV
  | .tmp t => some (T t)
  | .cell x ty => tvLoad P S ty (T x)

def resAll (P : Program) (T : Nat → TV) (S : Store) : List ResultVar → Option (List TV)
  | [] => some []
  | r :: rs => match resOf P T S r, resAll P T S rs with
    | some v, some vs => some (v :: vs)
    | _, _ => none

def pack : List TV → TV
  | [v] => v
  | l => .tup l

def resSem (tmps : Array Value) : ResultVar → Sem Value
  | .tmp t => pure (tmps.getD t undef)
  | .cell x t => do loadVar t (← asAddr (tmps.getD x undef))

theorem res_run (hs : SRep N F φ T S a w) : ∀ (rs : List ResultVar) (vs : List TV), resAll P T S rs = some vs →
    ∃ xs : List Value, (rs.mapM (resSem a.tmps)).run P w = .ok xs w ∧ ListRep w (Mut F φ S) φ S vs xs
  | [], vs, h => by
    simp [resAll] at h
    subst h
    exact ⟨[], rfl, rfl, fun i hi => absurd hi (by simp)⟩
  | r :: rs, vs, h => by
    simp only [resAll] at h
    split at h
    · rename_i v vs' h1 h2
      simp at h
      subst h
      obtain ⟨xs, hx, hl⟩ := res_run hs rs vs' h2
      have key : ∃ x, (resSem a.tmps r).run P w = .ok x w ∧ TRep w (Mut F φ S) φ S v x := by
        cases r with
        | tmp t =>
          simp [resOf] at h1
          subst h1
          exact ⟨_, rfl, hs.tmps t⟩
        | cell x t =>
          simp only [resOf] at h1
          obtain ⟨z, hz, hv⟩ := tvLoad_ok (P := P) hs.store h1 (hs.tmps x)
          refine ⟨z, ?_, hv⟩
          have hp : ∃ ad, a.tmps.getD x undef = .pointer (some ad) := by
            have hr := hs.tmps x
            generalize a.tmps.getD x undef = y at hr
            unfold tvLoad at h1
            split at h1
            · split at h1
              · rename_i e; rw [e] at hr; cases hr; exact ⟨_, rfl⟩
              · rename_i e; rw [e] at hr; cases hr; exact ⟨_, rfl⟩
              · simp at h1
            · simp at h1
          obtain ⟨ad, had⟩ := hp
          simp only [resSem, had, Instr.loadAt, Instr.sureAddr, asAddr, Sem.run_bind, Sem.run_pure, Result.andThen_ok] at hz ⊢
          exact hz
      obtain ⟨x, hx1, hv⟩ := key
      refine ⟨x :: xs, ?_, by simp [hl.1], fun i hi y hy => ?_⟩
      · simp only [List.mapM_cons, Sem.run_bind, Sem.run_pure]
        rw [hx1]
        simp only [Result.andThen_ok]
        rw [hx]
        rfl
      · cases i with
        | zero => simp at hy; subst hy; exact hv
        | succ i => simpa using hl.2 i (by simpa using hi) y (by simpa using hy)
    · simp at h

theorem results_run (hs : SRep N F φ T S a w) {fn : Func} {vs : List TV} (h : resAll P T S fn.results.toList = some vs) : ∃ x, (results fn a.tmps).run P w = .ok x w ∧ TRep w (Mut F φ S) φ S (pack vs) x := by
  obtain ⟨xs, hx, hl⟩ := res_run hs _ _ h
  have hm : (fn.results.mapM (resSem a.tmps)).run P w = .ok xs.toArray w := by
    rw [Array.mapM_eq_mapM_toList]
    rw [Sem.run_map, hx]
    rfl
  have hrun : (results fn a.tmps).run P w = .ok (if h : xs.toArray.size = 1 then xs.toArray[0] else .tuple xs.toArray) w := by
    have e : results fn a.tmps = (fn.results.mapM (resSem a.tmps) >>= fun vs => pure (if h : vs.size = 1 then vs[0] else .tuple vs)) := by
      unfold results
      congr 1
    rw [e, Sem.run_bind, hm]
    rfl
  refine ⟨_, hrun, ?_⟩
  obtain ⟨h1, h2⟩ := hl
  cases vs with
  | nil =>
    have : xs = [] := List.eq_nil_of_length_eq_zero (by simpa using h1.symm)
    subst this
    simp only [pack]
    exact .tup _ _ (by simp) fun i hi => absurd hi (by simp)
  | cons v vs =>
    cases vs with
    | nil =>
      obtain ⟨x, rfl⟩ := List.length_eq_one_iff.1 h1.symm
      simpa [pack] using h2 0 (by simp) x rfl
    | cons v2 vs =>
      have hne : ¬ xs.toArray.size = 1 := by simp at h1 ⊢; omega
      rw [dif_neg hne]
      exact .tup _ _ (by simp [h1]) fun i hi y hy => h2 i hi y (by simpa using hy)

/-- What a function's body must come to. -/
def Post (P : Program) (fn : Func) (R : TV → Store → Prop) : Exit → (Nat → TV) → Store → Prop
  | .normal, T, S | .ret, T, S => ∃ vs, resAll P T S fn.results.toList = some vs ∧ R (pack vs) S
  | _, _, _ => False

def argT (avs : List TV) : Nat → TV := fun t => avs.getD t .junk

theorem acall_intro {g : FuncId} {fn : Func} {c : Code} {avs : List TV} {R : TV → Store → Prop} (hf : P.funcs[g]? = some fn) (hN : fn.ntmps = N) (hb : fn.body = some c) (hn : avs.length ≤ N)
    (h : awp P N c (Post P fn R) (argT avs) S) : ACall P g avs S R := by
  subst hN
  intro F φ w args hok hl
  refine calls_of_wp hf hb ?_
  have hs : SRep fn.ntmps F φ (argT avs) S { tmps := args ++ Array.replicate (fn.ntmps - args.size) undef, defers := [] } w := by
    have h1 := hl.1
    simp at h1
    refine ⟨by simp; omega, fun t => ?_, rfl, hok⟩
    simp only [argT, Array.getD_eq_getD_getElem?, List.getD_eq_getElem?_getD]
    by_cases ht : t < avs.length
    · have e1 : (args ++ Array.replicate (fn.ntmps - args.size) undef)[t]? = some (args[t]'(by omega)) := by
        rw [Array.getElem?_append_left (by omega)]
        simp
      rw [e1, List.getElem?_eq_getElem ht]
      exact hl.2 t ht _ (by simp)
    · rw [List.getElem?_eq_none (by omega)]
      exact .junk _
  refine wp_mono (h F φ _ w hs) ?_
  rintro e a' w' ⟨φ', T', S', hq, hs', hx⟩
  cases e with
  | normal =>
    obtain ⟨vs, hv, hR⟩ := hq
    obtain ⟨x, hr, ht⟩ := results_run (P := P) hs' hv
    exact ⟨hs'.defers, x, hr, x, _, S', φ', rfl, hR, ht, hs'.store, hx⟩
  | ret =>
    obtain ⟨vs, hv, hR⟩ := hq
    obtain ⟨x, hr, ht⟩ := results_run (P := P) hs' hv
    exact ⟨hs'.defers, x, hr, x, _, S', φ', rfl, hR, ht, hs'.store, hx⟩
  | _ => exact hq.elim

/-! ### calls with closed values alone -/
inductive Closed : TV → Prop where
  | c (v : CV) : Closed (.c v)
  | agg (l : List TV) (h : ∀ v, v ∈ l → Closed v) : Closed (.agg l)
  | tup (l : List TV) (h : ∀ v, v ∈ l → Closed v) : Closed (.tup l)
  | fn (f : Fn) (l1 l2 : List TV) (h1 : ∀ v, v ∈ l1 → Closed v) (h2 : ∀ v, v ∈ l2 → Closed v) : Closed (.fn f l1 l2)
  | taddr (l : List CV) : Closed (.taddr l)

theorem Closed.mono {M' : Nat → Prop} {φ' : Env} {S' : Store} {w' : World} (hk : ∀ b, b < w.heap.size → ¬ M b → w'.heap[b]? = w.heap[b]?) (hM : ∀ b, b < w.heap.size → M' b → M b) {v : TV} {x : Value}
    (hc : Closed v) (h : TRep w M φ S v x) : TRep w' M' φ' S' v x := by
  induction h with
  | c v x h => exact .c v x (h.mono hk hM)
  | taddr cells b o f hf hm hr => exact .taddr cells b o f (fun j hj => cell_same (hf j hj) (hk b (cell_lt (hf j hj)) (hm j hj))) (fun j hj hb => hm j hj (hM b (cell_lt (hf j hj)) hb)) fun j hj => (hr j hj).mono hk hM
  | agg l cs hl _ ih =>
    cases hc with
    | agg l hc => exact .agg l cs hl fun i hi v hv => ih i hi v hv (hc _ (List.getElem_mem hi))
  | tup l cs hl _ ih =>
    cases hc with
    | tup l hc => exact .tup l cs hl fun i hi v hv => ih i hi v hv (hc _ (List.getElem_mem hi))
  | fn f l1 l2 c1 c2 hl1 hl2 _ _ ih1 ih2 =>
    cases hc with
    | fn _ _ _ h1 h2 => exact .fn f l1 l2 c1 c2 hl1 hl2 (fun i hi v hv => ih1 i hi v hv (h1 _ (List.getElem_mem hi))) (fun i hi v hv => ih2 i hi v hv (h2 _ (List.getElem_mem hi)))
  | _ => cases hc

def CCall (P : Program) (g : FuncId) (avs : List TV) (r : TV) : Prop := ∀ S, ACall P g avs S fun r' S' => r' = r ∧ S' = S

/-- What is left of a value when the store behind it falls away. -/
inductive Frz (S : Store) : TV → CV → Prop where
  | c (v : CV) : Frz S (.c v) v
  | nil : Frz S (.c .nilsl) (.sl 0 [])
  | view (id g off len : Nat) (et : TypeId) (esz : Nat) (cs : List TV) (l : List CV) (h : S.at id g = some (et, esz, cs)) (hl : l.length = len * esz) (h0 : 0 < esz) (hle : off + len * esz ≤ cs.length)
      (hr : ∀ i (hi : i < l.length) v, cs[off + i]? = some v → Frz S v l[i]) : Frz S (.view id g off len) (.sl len l)

inductive FrzT (S : Store) : TV → TV → Prop where
  | c (v : TV) (u : CV) (h : Frz S v u) : FrzT S v (.c u)
  | agg (l l' : List TV) (hl : l.length = l'.length) (h : ∀ i (hi : i < l'.length) v, l[i]? = some v → FrzT S v l'[i]) : FrzT S (.agg l) (.agg l')
  | tup (l l' : List TV) (hl : l.length = l'.length) (h : ∀ i (hi : i < l'.length) v, l[i]? = some v → FrzT S v l'[i]) : FrzT S (.tup l) (.tup l')
  | ptr (id g off : Nat) (et : TypeId) (esz : Nat) (cs : List TV) (l : List CV) (h : S.at id g = some (et, esz, cs)) (hl : off + l.length = cs.length)
      (hr : ∀ i (hi : i < l.length) v, cs[off + i]? = some v → Frz S v l[i]) : FrzT S (.ptr id g off) (.taddr l)
  | taddr (l : List CV) : FrzT S (.taddr l) (.taddr l)
  | fn (f : Fn) (l1 l2 m1 m2 : List TV) (hl1 : l1.length = m1.length) (hl2 : l2.length = m2.length) (h1 : ∀ i (hi : i < m1.length) v, l1[i]? = some v → FrzT S v m1[i])
      (h2 : ∀ i (hi : i < m2.length) v, l2[i]? = some v → FrzT S v m2[i]) : FrzT S (.fn f l1 l2) (.fn f m1 m2)

theorem Frz.rep {F' : Nat → Prop} (hok : StoreOK F' φ S w) {v : TV} {u : CV} (h : Frz S v u) : ∀ x, TRep w (Mut F' φ S) φ S v x → CRep w F' u x := by
  induction h with
  | c v =>
    intro x hx
    cases hx with
    | c v x hx => exact hx.mono (fun _ _ _ => rfl) fun _ _ h => .inl h
  | nil =>
    intro x hx
    obtain rfl := rep_nilsl hx
    exact .slnil
  | view id g off len et esz cs l hat hl h0 hle _ ih =>
    intro x hx
    have hg := at_some hat
    obtain ⟨arr, a1, a2, a3, a4⟩ := obj_cell hok hg
    cases hx with
    | view id g off len ad cap o hcap he g1 g2 g3 =>
      rw [hg] at g1
      injection g1 with g1
      subst g1
      obtain ⟨b1, b2⟩ := g3 rfl
      by_cases hc : 0 < cap
      · rw [b1 hc]
        refine .sl len l _ _ cap (fun j => arr.getD (φ.base id + off + j) undef) hcap (fun j hj => ?_) (fun j hj hF => hok.far id _ hg hF) (fun j hj => ?_)
        · obtain ⟨v, c1, c2, c3, c4⟩ := a4 (off + j) (by omega)
          have e : arr.getD (φ.base id + off + j) undef = v := by
            rw [Array.getD_eq_getD_getElem?, Nat.add_assoc, c1]
            rfl
          rw [e, ← c2]
          simp [Nat.add_assoc]
        · obtain ⟨v, c1, c2, c3, c4⟩ := a4 (off + j) (by omega)
          have e : arr.getD (φ.base id + off + j) undef = v := by
            rw [Array.getD_eq_getD_getElem?, Nat.add_assoc, c1]
            rfl
          rw [e]
          exact ih j hj cs[off + j] (by simp) v c4
      · obtain ⟨b, f, rfl⟩ := he
        have hl0 : len = 0 := by omega
        subst hl0
        simp at hl
        subst hl
        exact .sl _ _ _ _ _ (fun _ => undef) hcap (fun j hj => by simp at hj) (fun j hj => by simp at hj) (fun j hj => by simp at hj)

theorem FrzT.rep {F' : Nat → Prop} {φ' : Env} {S' : Store} (hok : StoreOK F' φ S w) {v u : TV} (h : FrzT S v u) : ∀ x, TRep w (Mut F' φ S) φ S v x → ∀ M', (∀ b, M' b → F' b) → TRep w M' φ' S' u x := by
  induction h with
  | c v u h => exact fun x hx M' hM => .c _ _ ((h.rep hok x hx).mono (fun _ _ _ => rfl) fun b _ hb => hM b hb)
  | agg l l' hl _ ih =>
    intro x hx M' hM
    cases hx with
    | agg l cs hl2 hr =>
      refine .agg _ _ (by omega) fun i hi y hy => ?_
      exact ih i hi l[i] (by simp) y (hr i (by omega) y hy) M' hM
  | tup l l' hl _ ih =>
    intro x hx M' hM
    cases hx with
    | tup l cs hl2 hr =>
      refine .tup _ _ (by omega) fun i hi y hy => ?_
      exact ih i hi l[i] (by simp) y (hr i (by omega) y hy) M' hM
  | ptr id g off et esz cs l hat hl hr =>
    intro x hx M' hM
    have hg := at_some hat
    obtain ⟨arr, a1, a2, a3, a4⟩ := obj_cell hok hg
    cases hx with
    | ptr id g off ad o g1 g2 g3 =>
      rw [hg] at g1
      injection g1 with g1
      subst g1
      rw [g3 rfl]
      refine .taddr l _ _ (fun j => arr.getD (φ.base id + off + j) undef) (fun j hj => ?_) (fun j hj hb => hok.far id _ hg (hM _ hb)) (fun j hj => ?_)
      · obtain ⟨v, c1, c2, c3, c4⟩ := a4 (off + j) (by omega)
        have e : arr.getD (φ.base id + off + j) undef = v := by
          rw [Array.getD_eq_getD_getElem?, Nat.add_assoc, c1]
          rfl
        rw [e, ← c2]
        simp [Nat.add_assoc]
      · obtain ⟨v, c1, c2, c3, c4⟩ := a4 (off + j) (by omega)
        have e : arr.getD (φ.base id + off + j) undef = v := by
          rw [Array.getD_eq_getD_getElem?, Nat.add_assoc, c1]
          rfl
        rw [e]
        exact ((hr j hj cs[off + j] (by simp)).rep hok v c4).mono (fun _ _ _ => rfl) fun b _ hb => hM b hb
  | taddr l =>
    intro x hx M' hM
    cases hx with
    | taddr cells b o f hf hm hr => exact .taddr l b o f hf (fun j hj hb => hm j hj (.inl (hM _ hb))) fun j hj => (hr j hj).mono (fun _ _ _ => rfl) fun b _ hb => .inl (hM b hb)
  | fn f l1 l2 m1 m2 hl1 hl2 _ _ ih1 ih2 =>
    intro x hx M' hM
    cases hx with
    | fn f _ _ c1 c2 k1 k2 r1 r2 =>
      exact .fn f m1 m2 c1 c2 (by omega) (by omega) (fun i hi y hy => ih1 i hi l1[i] (by simp) y (r1 i (by omega) y hy) M' hM) (fun i hi y hy => ih2 i hi l2[i] (by simp) y (r2 i (by omega) y hy) M' hM)

theorem ccall_of {g : FuncId} {avs : List TV} {r : TV} (hc : ∀ v, v ∈ avs → Closed v) (h : ACall P g avs Store.empty fun v S' => FrzT S' v r) : CCall P g avs r := by
  intro S F φ w args hok hl
  have hlt : ∀ b, Mut F φ S b → b < w.heap.size := fun b hb => by
    rcases hb with hb | ⟨id, o, h1, rfl⟩
    · exact hok.old b hb
    · have := hok.obj id o h1
      cases o with
      | cells g et esz cs => obtain ⟨arr, h1, _⟩ := this; exact (Array.getElem?_eq_some_iff.1 h1).1
      | map es c => obtain ⟨arr, h1, _⟩ := this; exact (Array.getElem?_eq_some_iff.1 h1).1
  have hok0 : StoreOK (Mut F φ S) φ Store.empty w := ⟨fun id o h => by simp [Store.empty] at h, fun _ _ => rfl, fun i j o o' h => by simp [Store.empty] at h, fun id o h => by simp [Store.empty] at h, hlt⟩
  have hM : ∀ b, Mut (Mut F φ S) φ Store.empty b → Mut F φ S b := fun b hb => by
    rcases hb with hb | ⟨id, o, h1, _⟩
    · exact hb
    · simp [Store.empty] at h1
  have hl0 : ListRep w (Mut (Mut F φ S) φ Store.empty) φ Store.empty avs args.toList := ⟨hl.1, fun i hi y hy => (hc _ (List.getElem_mem hi)).mono (fun _ _ _ => rfl) (fun b _ hb => hM b hb) (hl.2 i hi y hy)⟩
  refine (h (Mut F φ S) φ w args hok0 hl0).mono ?_
  rintro e w' ⟨x, v, S', φ', rfl, hf, hv, hok', hx⟩
  have hkeep : ∀ b, b < w.heap.size → w'.heap[b]? = w.heap[b]? := fun b hb => hx.kept b hb fun ⟨id, o, h1, _⟩ => by simp [Store.empty] at h1
  have hx0 : Ext φ S w φ S w' := ⟨hx.size, fun b hb _ => hkeep b hb, fun _ _ h => h, fun _ o h => ⟨o, h, Nat.le_refl _, rfl, fun _ => ⟨rfl, rfl, rfl⟩⟩, hx.os, hx.tape, hx.output⟩
  refine ⟨x, r, S, φ, rfl, ⟨rfl, rfl⟩, hf.rep hok' x hv _ (fun _ h => h), ?_, hx0⟩
  refine ⟨fun id o ho => ?_, hok.fresh, hok.inj, hok.far, fun b hb => Nat.lt_of_lt_of_le (hok.old b hb) hx.size⟩
  have hb := hlt _ (.inr ⟨id, o, ho, rfl⟩)
  have h3 := hok.obj id o ho
  cases o with
  | cells g et esz cs =>
    obtain ⟨arr, g1, g2, g3, g4⟩ := h3
    exact ⟨arr, by rw [hkeep _ hb]; exact g1, g2, g3, fun i hi v hv => ⟨(g4 i hi v hv).1, (g4 i hi v hv).2.ext hx0⟩⟩
  | map es c =>
    obtain ⟨arr, g1, g2, g3⟩ := h3
    refine ⟨arr, by rw [hkeep _ hb]; exact g1, g2, fun i hi e he => ?_⟩
    obtain ⟨a1, a2, a3⟩ := g3 i hi e he
    exact ⟨a1.ext hx0, a2.ext hx0, a3⟩

theorem ccall_intro {g : FuncId} {fn : Func} {c : Code} {avs : List TV} {r : TV} (hf : P.funcs[g]? = some fn) (hN : fn.ntmps = N) (hb : fn.body = some c) (hn : avs.length ≤ N) (hc : ∀ v, v ∈ avs → Closed v)
    (h : awp P N c (Post P fn fun v S' => FrzT S' v r) (argT avs) Store.empty) : CCall P g avs r :=
  ccall_of hc (acall_intro hf hN hb hn h)

theorem awpOp_ccall {o : Oper} {c : Call} {f : Operand} {g : FuncId} {l1 l2 : List TV} {K : (Nat → TV) → Store → Prop} {r : TV} (hd : dstOk N o = true) (ho : o.op = .call c) (hcal : c.callee = .value f)
    (hf : ev T f = .fn (.func g) l1 l2) (hg : isFunc P g = true) (hA : CCall P g (l1 ++ c.args.toList.map (ev T) ++ l2) r) (hK : K (put T o.dst r) S) : awpOp P N o K T S :=
  awpOp_call hd ho hcal hf hg (hA S) fun r' S' h => by rw [h.1, h.2]; exact hK
/-- A world that has more blocks, else the same, bears the same store. -/
theorem ok_more {w1 : World} (hok : StoreOK F φ S w) (hs : w.heap.size ≤ w1.heap.size) (hb : ∀ b, b < w.heap.size → w1.heap[b]? = w.heap[b]?) (h1 : w1.os = w.os) (h2 : w1.tape = w.tape) (h3 : w1.output = w.output) :
    StoreOK F φ S w1 ∧ Ext φ S w φ S w1 := by
  have hx : Ext φ S w φ S w1 := ⟨hs, fun b hl _ => hb b hl, fun _ _ h => h, fun _ o h => ⟨o, h, Nat.le_refl _, rfl, fun _ => ⟨rfl, rfl, rfl⟩⟩, h1, h2, h3⟩
  refine ⟨⟨fun id o ho => ?_, hok.fresh, hok.inj, hok.far, fun b h => Nat.lt_of_lt_of_le (hok.old b h) hs⟩, hx⟩
  have := hok.obj id o ho
  cases o with
  | cells g et esz cs =>
    obtain ⟨arr, g1, g2, g3, g4⟩ := this
    have hl := (Array.getElem?_eq_some_iff.1 g1).1
    exact ⟨arr, by rw [hb _ hl]; exact g1, g2, g3, fun i hi v hv => ⟨(g4 i hi v hv).1, (g4 i hi v hv).2.ext hx⟩⟩
  | map es c =>
    obtain ⟨arr, g1, g2, g3⟩ := this
    have hl := (Array.getElem?_eq_some_iff.1 g1).1
    exact ⟨arr, by rw [hb _ hl]; exact g1, g2, fun i hi e he => ⟨(g3 i hi e he).1.ext hx, (g3 i hi e he).2.1.ext hx, (g3 i hi e he).2.2⟩⟩


/-! ### calls that only look: their arguments as they stand -/
inductive FlatC : CV → Prop where
  | int (k : IntKind) (n : Int) : FlatC (.int k n)
  | bool (b : Bool) : FlatC (.bool b)
  | str (s : ByteArray) : FlatC (.str s)
  | nilptr : FlatC .nilptr
  | nilsl : FlatC .nilsl
  | nilif : FlatC .nilif
inductive Flat : TV → Prop where
  | c (v : CV) (h : FlatC v) : Flat (.c v)
  | tup (l : List TV) (h : ∀ v, v ∈ l → Flat v) : Flat (.tup l)
theorem Flat.rep {M' : Nat → Prop} {φ' : Env} {S' : Store} {v : TV} {x : Value} (hf : Flat v) (h : TRep w M φ S v x) : TRep w M' φ' S' v x := by
  induction h with
  | c v x h =>
    cases hf with
    | c v hv => cases hv <;> cases h <;> exact .c _ _ (by constructor)
  | tup l cs hl _ ih =>
    cases hf with
    | tup l hv => exact .tup l cs hl fun i hi v hv2 => ih i hi v hv2 (hv _ (List.getElem_mem hi))
  | _ => cases hf

theorem acall_snap {g : FuncId} {avs favs : List TV} {r : TV} (hl : avs.length = favs.length) (hf : ∀ i (hi : i < favs.length) v, avs[i]? = some v → FrzT S v favs[i]) (hc : CCall P g favs r) (hr : Flat r) :
    ACall P g avs S fun r' S' => r' = r ∧ S' = S := by
  intro F φ w args hok hlr
  have hm : Mut (fun _ => False) φ Store.empty = fun _ => False := by
    funext b
    simp [Mut, live, Store.empty]
  have hok0 : StoreOK (fun _ => False) φ Store.empty w :=
    ⟨fun id o h => by simp [Store.empty] at h, fun _ _ => rfl, fun i j o o' h => by simp [Store.empty] at h, fun id o h => by simp [Store.empty] at h, fun b h => h.elim⟩
  have hl0 : ListRep w (Mut (fun _ => False) φ Store.empty) φ Store.empty favs args.toList := by
    refine ⟨by rw [← hl]; exact hlr.1, fun i hi y hy => ?_⟩
    exact (hf i hi (avs[i]'(by omega)) (by simp)).rep hok y (hlr.2 i (by omega) y hy) _ fun b hb => by rw [hm] at hb; exact hb.elim
  refine (hc Store.empty (fun _ => False) φ w args hok0 hl0).mono ?_
  rintro e w' ⟨x, r', S', φ', rfl, ⟨rfl, rfl⟩, h3, _, hx⟩
  obtain ⟨d1, d2⟩ := ok_more (w1 := w') hok hx.size (fun b hb => hx.kept b hb fun ⟨id, o, h1, _⟩ => by simp [Store.empty] at h1) hx.os hx.tape hx.output
  exact ⟨x, _, S, φ, rfl, ⟨rfl, rfl⟩, hr.rep h3, d1, d2⟩
end
end Go.Sim
