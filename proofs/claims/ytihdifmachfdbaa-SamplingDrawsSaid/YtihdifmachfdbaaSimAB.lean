/- A part of the proof: values and stores in plain Lean, and the rules by which a walk is taken. -/
import Derived.Test.YtihdifmachfdbaaSimAA
set_option autoImplicit false
set_option linter.unusedSimpArgs false
set_option linter.unusedVariables false
namespace Go.Sim
open Go

section
variable {P : Program} {tab : Tab} {n0 N : Nat} {V : Nat → SV} {L : List SObj} {Q : Exit → (Nat → TV) → Store → Prop}

theorem aw_if {c : Operand} {x y : Code} {b : Bool} (hc : evS V c = .bool b) (h1 : b = true → awpB P n0 N x Q (outT V) (outS L)) (h2 : b = false → awpB P n0 N y Q (outT V) (outS L)) : awpB P n0 N (.cond c x y) Q (outT V) (outS L) := by
  refine aw_condB (b := b) (by rw [evS_out, hc]; rfl) ?_
  cases b with
  | true => exact h1 rfl
  | false => exact h2 rfl
theorem aw_yes {c : Operand} {x y : Code} (hc : evS V c = .tt) (h1 : awpB P n0 N x Q (outT V) (outS L)) : awpB P n0 N (.cond c x y) Q (outT V) (outS L) :=
  aw_condB (b := true) (by rw [evS_out, hc]; rfl) h1
theorem aw_no {c : Operand} {x y : Code} (hc : evS V c = .ff) (h1 : awpB P n0 N y Q (outT V) (outS L)) : awpB P n0 N (.cond c x y) Q (outT V) (outS L) :=
  aw_condB (b := false) (by rw [evS_out, hc]; rfl) h1

theorem aw_reg {id : Nat} {ops : Array Oper} (l : List Oper) (hN : ops.all (dstOk N) = true) (hl : ops.toList = l) (h : opsWp P N ops l (fun T S => Q .normal T S) (outT V) (outS L)) : awpB P n0 N (.region id ops false) Q (outT V) (outS L) :=
  awpB_of (awp_reg l hN hl h)
theorem aw_regD (b : Bool) {id : Nat} {ops : Array Oper} (l : List Oper) (hm : P.follows .mixedOrders = true) (hN : ops.all (dstOk N) = true) (hd : drawOk P b ops = true) (hl : ops.toList = l) (h : opsD P b ops l (fun T S => Q .normal T S) (outT V) (outS L)) :
    awpB P n0 N (.region id ops true) Q (outT V) (outS L) := awpB_of (awp_regD b l hm hN hd hl h)

/-! a slot's truth value fixed -/
theorem upd_same {t : Nat} {u : SV} (hu : u.out = (V t).out) : outT (updS V t u) = outT V := by
  funext k
  simp only [outT, updS]
  cases hb : Nat.beq k t with
  | true => rw [Nat.eq_of_beq_eq_true hb]; exact hu
  | false => rfl
theorem ops_split {K : (Nat → TV) → Store → Prop} {ops : Array Oper} {os : List Oper} (t : Nat) {b : Bool} (hv : V t = .bool b) (h1 : b = true → opsWp P N ops os K (outT (updS V t .tt)) (outS L)) (h2 : b = false → opsWp P N ops os K (outT (updS V t .ff)) (outS L)) :
    opsWp P N ops os K (outT V) (outS L) := by
  cases b with
  | true => have := h1 rfl; rwa [upd_same (by rw [hv]; rfl)] at this
  | false => have := h2 rfl; rwa [upd_same (by rw [hv]; rfl)] at this
theorem ops_do {K : (Nat → TV) → Store → Prop} {ops : Array Oper} {o : Oper} {os : List Oper} {j : Nat} {want : Bool} {t : Tmp} (hg : o.guard = some (j, want)) (ht : (ops[j]?).bind (·.dst) = some t) (hc : guardS want (V t) = some true)
    (h : opsWp P N ops ({ o with guard := none } :: os) K (outT V) (outS L)) : opsWp P N ops (o :: os) K (outT V) (outS L) := by
  obtain ⟨x, hx, hiff⟩ := guardS_ok ht hc
  simp only [opsWp, hg, hx]
  rw [if_pos (hiff.2 rfl)]
  exact h
theorem ops_pass {K : (Nat → TV) → Store → Prop} {ops : Array Oper} {o : Oper} {os : List Oper} {j : Nat} {want : Bool} {t : Tmp} (hg : o.guard = some (j, want)) (ht : (ops[j]?).bind (·.dst) = some t) (hc : guardS want (V t) = some false)
    (h : opsWp P N ops os K (outT (putS V o.dst (.opt false .junk))) (outS L)) : opsWp P N ops (o :: os) K (outT V) (outS L) := by
  obtain ⟨x, hx, hiff⟩ := guardS_ok ht hc
  simp only [opsWp, hg, hx]
  rw [if_neg (fun e => by simpa using hiff.1 e)]
  have e : put (outT V) o.dst .und = outT (putS V o.dst (.opt false .junk)) := by rw [← outT_put]; rfl
  rw [e]
  exact h

/-! ### functions -/
def enum : Nat → List SV → List (Nat × SV)
  | _, [] => []
  | i, v :: l => (i, v) :: enum (i + 1) l
theorem enum_look : ∀ (l : List SV) (i t : Nat), (look (enum i l) (i + t)).out = (l.map SV.out).getD t .junk
  | [], i, t => by simp [enum, look, SV.out, SV.cells]
  | v :: l, i, 0 => by simp [enum, look]
  | v :: l, i, t + 1 => by
    have hb : Nat.beq (i + (t + 1)) i = false := by cases hb : Nat.beq (i + (t + 1)) i with
      | true => have := Nat.eq_of_beq_eq_true hb; omega
      | false => rfl
    simp only [enum, look, hb]
    have := enum_look l (i + 1) t
    rw [show i + 1 + t = i + (t + 1) by omega] at this
    simpa using this
theorem enum_arg (l : List SV) : outT (look (enum 0 l)) = argT (l.map SV.out) := by
  funext t
  have := enum_look l 0 t
  rw [Nat.zero_add] at this
  exact this

mutual
def closedS : SV → Bool
  | .ptr _ _ _ | .eptr _ _ _ _ _ _ | .view _ _ _ _ | .gview _ _ | .mapr _ | .opt _ _ | .ifc _ _ | .junk | .arr _ _ _ | .barr _ _ | .lst _ _ => false
  | .agg l => closedA l
  | .tup l => closedL l
  | .fn _ l1 l2 => closedL l1 && closedL l2
  | _ => true
def closedL : List SV → Bool
  | [] => true
  | v :: l => closedS v && closedL l
/-- Cells of an aggregate: rows of them, too. -/
def closedA : List SV → Bool
  | [] => true
  | .arr _ _ _ :: l => closedA l
  | .barr _ _ :: l => closedA l
  | .lst _ _ :: l => closedA l
  | v :: l => closedS v && closedA l
end
theorem closed_head {l : List TV} (h : ∀ u ∈ l, Closed u) (hl : l ≠ []) : Closed (l.headD .junk) := by
  cases l with
  | nil => exact absurd rfl hl
  | cons x l => exact h x (by simp)
mutual
theorem closedS_ok : ∀ (v : SV), closedS v = true → ∀ u ∈ v.cells, Closed u
  | .int _ _, _, u, hu => by simp [SV.cells] at hu; subst hu; exact .c _
  | .bool _, _, u, hu => by simp [SV.cells] at hu; subst hu; exact .c _
  | .tt, _, u, hu => by simp [SV.cells] at hu; subst hu; exact .c _
  | .ff, _, u, hu => by simp [SV.cells] at hu; subst hu; exact .c _
  | .str _, _, u, hu => by simp [SV.cells] at hu; subst hu; exact .c _
  | .row _ _, _, u, hu => by simp [SV.cells] at hu; subst hu; exact .c _
  | .nrow _ _ _, _, u, hu => by simp [SV.cells] at hu; subst hu; exact .c _
  | .cv _, _, u, hu => by simp [SV.cells] at hu; subst hu; exact .c _
  | .rptr _ _ _ _, _, u, hu => by simp [SV.cells] at hu; subst hu; exact .taddr _
  | .taddr _, _, u, hu => by simp [SV.cells] at hu; subst hu; exact .taddr _
  | .agg l, h, u, hu => by
    simp [SV.cells] at hu
    subst hu
    exact .agg _ (closedA_ok l (by simpa [closedS] using h))
  | .tup l, h, u, hu => by
    simp [SV.cells] at hu
    subst hu
    exact .tup _ (closedL_ok l (by simpa [closedS] using h))
  | .fn f l1 l2, h, u, hu => by
    simp [SV.cells] at hu
    subst hu
    simp [closedS] at h
    exact .fn _ _ _ (closedL_ok l1 h.1) (closedL_ok l2 h.2)
  | .ptr _ _ _, h, u, hu => by simp [closedS] at h
  | .eptr _ _ _ _ _ _, h, u, hu => by simp [closedS] at h
  | .view _ _ _ _, h, u, hu => by simp [closedS] at h
  | .gview _ _, h, u, hu => by simp [closedS] at h
  | .mapr _, h, u, hu => by simp [closedS] at h
  | .opt _ _, h, u, hu => by simp [closedS] at h
  | .ifc _ _, h, u, hu => by simp [closedS] at h
  | .junk, h, u, hu => by simp [closedS] at h
  | .arr _ _ _, h, u, hu => by simp [closedS] at h
  | .barr _ _, h, u, hu => by simp [closedS] at h
  | .lst _ _, h, u, hu => by simp [closedS] at h
theorem closedL_ok : ∀ (l : List SV), closedL l = true → ∀ u ∈ SV.outL l, Closed u
  | [], _, u, hu => by simp [SV.outL] at hu
  | v :: l, h, u, hu => by
    simp only [closedL, Bool.and_eq_true] at h
    simp only [SV.outL, List.mem_cons] at hu
    rcases hu with hu | hu
    · subst hu
      refine closed_head (closedS_ok v h.1) ?_
      cases v <;> simp [closedS] at h <;> simp [SV.cells]
    · exact closedL_ok l h.2 u hu
theorem closedA_ok : ∀ (l : List SV), closedA l = true → ∀ u ∈ SV.cellsL l, Closed u
  | [], _, u, hu => by simp [SV.cellsL] at hu
  | v :: l, h, u, hu => by
    simp only [SV.cellsL, List.mem_append] at hu
    by_cases h1 : v.single = true
    · have h2 : closedS v = true ∧ closedA l = true := by
        cases v <;> first | (simp [SV.single] at h1; done) | (simpa [closedA] using h)
      rcases hu with hu | hu
      · exact closedS_ok v h2.1 u hu
      · exact closedA_ok l h2.2 u hu
    · cases v <;> simp [SV.single] at h1
      all_goals
        simp only [closedA] at h
        rcases hu with hu | hu
        · simp only [SV.cells, List.mem_map] at hu
          obtain ⟨i, _, rfl⟩ := hu
          exact .c _
        · exact closedA_ok l h u hu
end
theorem closed_outs {l : List SV} (h : closedL l = true) : ∀ v ∈ l.map SV.out, Closed v := by
  rw [← outL_map]
  exact closedL_ok l h

/-- The behaviour of a function's body, from its arguments on. -/
theorem acall_introB {g : FuncId} {fn : Func} {c : Code} {avs : List TV} {S : Store} {R : TV → Store → Prop} (hf : P.funcs[g]? = some fn) (hN : fn.ntmps = N) (hb : fn.body = some c) (hn : avs.length ≤ N) (h0 : ∀ id o, S.get id = some o → id < n0)
    (h : awpB P n0 N c (fun e T' S' => (e = .normal ∨ e = .ret) ∧ ∃ T'' S'' vs, Goes n0 T' S' T'' S'' ∧ resAll P T'' S'' fn.results.toList = some vs ∧ R (pack vs) S'') (argT avs) S) : ACall P g avs S R := by
  subst hN
  intro F φ w args hok hl
  refine calls_of_wp hf hb ?_
  have hs : SRep fn.ntmps F φ (argT avs) S { tmps := args ++ Array.replicate (fn.ntmps - args.size) undef, defers := [] } w := by
    have h1 := hl.1
    simp at h1
    refine ⟨by simp; omega, fun t => ?_, rfl, hok⟩
    simp only [argT, Array.getD_eq_getD_getElem?, List.getD_eq_getElem?_getD]
    by_cases ht : t < avs.length
    · have e1 : (args ++ Array.replicate (fn.ntmps - args.size) undef)[t]? = some (args[t]'(by omega)) := by
        rw [Array.getElem?_append_left (by omega)]
        simp
      rw [e1, List.getElem?_eq_getElem ht]
      exact hl.2 t ht _ (by simp)
    · rw [List.getElem?_eq_none (by omega)]
      exact .junk _
  refine wp_mono (h F φ _ w φ S w h0 hs (Ext.refl φ S w)) ?_
  rintro e a' w' ⟨φ', T', S', hq, hs', hx⟩
  obtain ⟨he, T'', S'', vs, hg, hv, hR⟩ := hq
  obtain ⟨φ2, hs2, hx2⟩ := hg _ F φ' a' w' hs'
  obtain ⟨x, hr, ht⟩ := results_run (P := P) hs2 hv
  have hx3 := hx2 φ S w h0 hx
  rcases he with rfl | rfl
  · exact ⟨hs'.defers, x, hr, x, _, _, φ2, rfl, hR, ht, hs2.store, hx3⟩
  · exact ⟨hs'.defers, x, hr, x, _, _, φ2, rfl, hR, ht, hs2.store, hx3⟩

/-- What a function returns, frozen. -/
inductive FrzS (L : List SObj) : SV → SV → Prop where
  | same (v : SV) (h : closedS v = true) (h2 : ∀ f a b, v ≠ .fn f a b) (h3 : ∀ l, v ≠ .agg l) (h4 : ∀ l, v ≠ .tup l) : FrzS L v v
  | nil (t : Ty) : FrzS L (.cv .nilsl) (.row t [])
  | gview (id len et : Nat) (t : Ty) (l : List t.den) (h : L[id]? = some (.grow et t l)) (hl : len = l.length) : FrzS L (.gview id len) (.row t l)
  | view (id g len et : Nat) (t : Ty) (l l' : List t.den) (h : L[id]? = some (.obj g et t.size [.lst t l])) (hl : len ≤ l.length) (he : l' = l.take len) : FrzS L (.view id g 0 len) (.row t l')
  | tup (l l' : List SV) (hl : l.length = l'.length) (h : ∀ i (h1 : i < l.length) (h2 : i < l'.length), FrzS L l[i] l'[i]) : FrzS L (.tup l) (.tup l')
  | agg (l l' : List SV) (hs : l.all SV.single = true) (hs' : l'.all SV.single = true) (hl : l.length = l'.length) (h : ∀ i (h1 : i < l.length) (h2 : i < l'.length), FrzS L l[i] l'[i]) : FrzS L (.agg l) (.agg l')
  | ptr (id g et esz : Nat) (t : Ty) (x : t.den) (cs : List SV) (h : L[id]? = some (.obj g et esz cs)) (hx : asDen t cs = some (x, [])) : FrzS L (.ptr id g 0) (.rptr t [x] 0 0)
  | fn (f : Fn) (l1 l2 m1 m2 : List SV) (hl1 : l1.length = m1.length) (hl2 : l2.length = m2.length) (h1 : ∀ i (h1 : i < l1.length) (h2 : i < m1.length), FrzS L l1[i] m1[i]) (h2 : ∀ i (h1 : i < l2.length) (h2 : i < m2.length), FrzS L l2[i] m2[i]) : FrzS L (.fn f l1 l2) (.fn f m1 m2)
  | eq (a b : SV) (hc : closedS a = true) (h2 : ∀ f x y, a ≠ .fn f x y) (h3 : ∀ l, a ≠ .agg l) (h4 : ∀ l, a ≠ .tup l) (h : a.out = b.out) : FrzS L a b

theorem frz_encs {S : Store} {id g len et : Nat} {t : Ty} {l : List t.den} (h : S.at id g = some (et, t.size, (encs t l).map .c)) (hle : len ≤ l.length) : Frz S (.view id g 0 len) (.sl len (encs t (l.take len))) := by
  have h1 := encs_len t (l.take len)
  rw [List.length_take, Nat.min_eq_left hle] at h1
  have hm := Nat.mul_le_mul_right t.size hle
  refine .view id g 0 len et t.size _ _ h h1 (Ty.size_pos t) (by rw [List.length_map, encs_len]; omega) fun i hi v hv => ?_
  rw [Nat.zero_add, List.getElem?_map] at hv
  simp only [Option.map_eq_some_iff] at hv
  obtain ⟨c, hc, rfl⟩ := hv
  have e : (encs t (l.take len))[i]? = some c := by
    rw [← encs_take, List.getElem?_take, if_pos (by omega)]
    exact hc
  rw [List.getElem?_eq_getElem hi] at e
  injection e with e
  rw [e]
  exact .c c

theorem closed_frz : ∀ (v : SV), closedS v = true → (∀ f a b, v ≠ .fn f a b) → (∀ l, v ≠ .agg l) → (∀ l, v ≠ .tup l) → FrzT (outS L) v.out v.out := by
  intro v h h2 h3 h4
  cases v <;> simp [closedS] at h
  all_goals first
    | exact .c _ _ (.c _)
    | exact absurd rfl (h2 _ _ _)
    | exact absurd rfl (h3 _)
    | exact absurd rfl (h4 _)
    | exact .taddr _

theorem cells_single {l : List SV} (h : l.all SV.single = true) : SV.cellsL l = l.map SV.out := by
  induction l with
  | nil => rfl
  | cons v l ih =>
    simp only [List.all_cons, Bool.and_eq_true] at h
    simp [SV.cellsL, single_cells h.1, ih h.2]

theorem frzS_ok {v r : SV} (h : FrzS L v r) : FrzT (outS L) v.out r.out := by
  induction h with
  | same v h h2 h3 h4 => exact closed_frz v h h2 h3 h4
  | eq a b hc h2 h3 h4 h => rw [← h]; exact closed_frz a hc h2 h3 h4
  | ptr id g et esz t x cs h hx =>
    have e := asDen_cells _ _ _ _ hx
    simp [SV.cellsL] at e
    have hat : (outS L).at id g = some (et, esz, (enc t x).map .c) := by
      simp [Store.at, outS, h, SObj.out, e]
    simp only [SV.out, SV.cells, List.headD_cons, Nat.zero_mul, Nat.zero_add, List.drop_zero]
    have e2 : encs t [x] = enc t x := by simp [encs]
    rw [e2]
    refine .ptr id g 0 et esz _ _ hat (by simp) fun i hi v hv => ?_
    simp at hv
    obtain ⟨c, hc, rfl⟩ := hv
    rw [List.getElem?_eq_getElem hi] at hc
    injection hc with hc
    rw [hc]
    exact .c c
  | fn f l1 l2 m1 m2 hl1 hl2 _ _ ih1 ih2 =>
    simp only [SV.out, SV.cells, List.headD_cons, outL_map]
    refine .fn _ _ _ _ _ (by simp [hl1]) (by simp [hl2]) (fun i hi v hv => ?_) (fun i hi v hv => ?_)
    · simp at hi
      have h1 : i < l1.length := by omega
      simp [h1] at hv
      subst hv
      simpa using ih1 i h1 hi
    · simp at hi
      have h1 : i < l2.length := by omega
      simp [h1] at hv
      subst hv
      simpa using ih2 i h1 hi
  | nil t => exact .c _ _ .nil
  | gview id len et t l h hl =>
    subst hl
    cases hl0 : l.length with
    | zero =>
      have : l = [] := List.eq_nil_of_length_eq_zero hl0
      subst this
      exact .c _ _ .nil
    | succ n =>
      have hat : (outS L).at id l.length = some (et, t.size, (encs t l).map .c) := by
        have hne : (l.length == 0) = false := by rw [hl0]; rfl
        simp [Store.at, outS, h, SObj.out, hne]
      have hf := frz_encs hat (Nat.le_refl _)
      rw [List.take_length] at hf
      have e : (SV.gview id (n + 1)).out = .view id l.length 0 l.length := by rw [hl0]; rfl
      rw [e]
      simp only [SV.out, SV.cells, List.headD_cons]
      exact .c _ _ hf
  | view id g len et t l l' h hl he =>
    subst he
    have hat : (outS L).at id g = some (et, t.size, (encs t l).map .c) := by
      simp [Store.at, outS, h, SObj.out, SV.cellsL, SV.cells]
    have hf := frz_encs hat hl
    simp only [SV.out, SV.cells, List.headD_cons, List.length_take, Nat.min_eq_left hl]
    exact .c _ _ hf
  | tup l l' hl _ ih =>
    simp only [SV.out, SV.cells, List.headD_cons, outL_map]
    refine .tup _ _ (by simp [hl]) fun i hi v hv => ?_
    simp at hi
    have h1 : i < l.length := by omega
    simp [h1] at hv
    subst hv
    simpa using ih i h1 hi
  | agg l l' hs hs' hl _ ih =>
    simp only [SV.out, SV.cells, List.headD_cons, cells_single hs, cells_single hs']
    refine .agg _ _ (by simp [hl]) fun i hi v hv => ?_
    simp at hi
    have h1 : i < l.length := by omega
    simp [h1] at hv
    subst hv
    simpa using ih i h1 hi

def plainS : SV → Bool
  | .fn _ _ _ | .agg _ | .tup _ => false
  | v => closedS v
theorem fs {L : List SObj} {v : SV} (h : plainS v = true) : FrzS L v v := by
  refine .same v ?_ (fun f a b e => ?_) (fun l e => ?_) (fun l e => ?_)
  · cases v <;> simp [plainS] at h <;> exact h
  all_goals subst e; simp [plainS] at h
theorem fs_eq {L : List SObj} {a b : SV} (h : plainS a = true) (he : a.out = b.out) : FrzS L a b := by
  refine .eq a b ?_ (fun f x y e => ?_) (fun l e => ?_) (fun l e => ?_) he
  · cases a <;> simp [plainS] at h <;> exact h
  all_goals subst e; simp [plainS] at h
theorem fs_int {L : List SObj} {k : IntKind} {a b : Int} (h : a = b) : FrzS L (.int k a) (.int k b) := by subst h; exact fs rfl
theorem fs_bool {L : List SObj} {a b : Bool} (h : a = b) : FrzS L (.bool a) (.bool b) := by subst h; exact fs rfl
theorem fs_tt {L : List SObj} {b : Bool} (h : b = true) : FrzS L .tt (.bool b) := by subst h; exact fs_eq rfl rfl
theorem fs_ff {L : List SObj} {b : Bool} (h : b = false) : FrzS L .ff (.bool b) := by subst h; exact fs_eq rfl rfl
theorem fs_gview {L : List SObj} {id len et : Nat} {t : Ty} {l l' : List t.den} (h : L[id]? = some (.grow et t l)) (hl : len = l.length) (he : l = l') : FrzS L (.gview id len) (.row t l') := by subst he; exact .gview id len et t l h hl
theorem fs_view {L : List SObj} {id g len et esz : Nat} {t : Ty} {l l' : List t.den} (h : L[id]? = some (.obj g et esz [.lst t l])) (hz : esz = t.size) (hl : len ≤ l.length) (he : l.take len = l') : FrzS L (.view id g 0 len) (.row t l') := by
  subst hz
  exact .view id g len et t l l' h hl he.symm
theorem fs_all {L : List SObj} {id g len et esz : Nat} {t : Ty} {l l' : List t.den} (h : L[id]? = some (.obj g et esz [.lst t l])) (hz : esz = t.size) (hl : len = l.length) (he : l = l') : FrzS L (.view id g 0 len) (.row t l') := by
  subst hz hl he
  exact .view id g _ et t l l h (Nat.le_refl _) (by rw [List.take_length])
theorem fs_row {L : List SObj} {t : Ty} {l l' : List t.den} (he : l = l') : FrzS L (.row t l) (.row t l') := by subst he; exact fs rfl
theorem fs_nil {L : List SObj} {t : Ty} {l : List t.den} (he : l = []) : FrzS L (.cv .nilsl) (.row t l) := by subst he; exact .nil t
inductive FrzSL (L : List SObj) : List SV → List SV → Prop where
  | nil : FrzSL L [] []
  | cons {a b : SV} {l l' : List SV} (h : FrzS L a b) (hl : FrzSL L l l') : FrzSL L (a :: l) (b :: l')
theorem FrzSL.get {l l' : List SV} (h : FrzSL L l l') : l.length = l'.length ∧ ∀ (i : Nat) (h1 : i < l.length) (h2 : i < l'.length), FrzS L l[i] l'[i] := by
  induction h with
  | nil => exact ⟨rfl, fun i h => by simp at h⟩
  | cons h hl ih =>
    refine ⟨by simp [ih.1], fun i h1 h2 => ?_⟩
    cases i with
    | zero => exact h
    | succ i => exact ih.2 i (by simpa using h1) (by simpa using h2)
theorem fs_fn {f : Fn} {l1 l2 m1 m2 : List SV} (h1 : FrzSL L l1 m1) (h2 : FrzSL L l2 m2) : FrzS L (.fn f l1 l2) (.fn f m1 m2) := .fn f l1 l2 m1 m2 h1.get.1 h2.get.1 h1.get.2 h2.get.2
theorem fs_ptr {id g et esz : Nat} {t : Ty} {x : t.den} {cs : List SV} (h : L[id]? = some (.obj g et esz cs)) (hx : asDen t cs = some (x, [])) : FrzS L (.ptr id g 0) (.rptr t [x] 0 0) := .ptr id g et esz t x cs h hx
theorem fs_tup {l l' : List SV} (h : FrzSL L l l') : FrzS L (.tup l) (.tup l') := .tup l l' h.get.1 h.get.2
theorem fs_agg {l l' : List SV} (h : FrzSL L l l') (hs : l.all SV.single = true) (hs' : l'.all SV.single = true) : FrzS L (.agg l) (.agg l') := .agg l l' hs hs' h.get.1 h.get.2

def packS : List SV → SV
  | [v] => v
  | l => .tup l
theorem packS_out : ∀ (l : List SV), pack (l.map SV.out) = (packS l).out
  | [] => by simp [pack, packS, SV.out, SV.cells, SV.outL]
  | [v] => rfl
  | v :: u :: l => by simp [pack, packS, SV.out, SV.cells, outL_map]

/-- The slots of a function's results. -/
def resTmps : List ResultVar → Option (List Nat)
  | [] => some []
  | .tmp t :: l => match resTmps l with
    | some r => some (t :: r)
    | none => none
  | _ => none
theorem resTmps_ok {S : Store} {V : Nat → SV} : ∀ {l : List ResultVar} {ts : List Nat}, resTmps l = some ts → resAll P (outT V) S l = some ((ts.map V).map SV.out)
  | [], ts, h => by simp only [resTmps] at h; injection h with h; subst h; rfl
  | .tmp t :: l, ts, h => by
    simp only [resTmps] at h
    split at h
    · rename_i r hr
      injection h with h
      subst h
      simp only [resAll, resOf, resTmps_ok (V := V) hr]
      rfl
    · cases h
  | .cell _ _ :: l, ts, h => by simp [resTmps] at h

/-- What a body must come to. -/
def RetC (ts : List Nat) (r : SV) : Exit → (Nat → TV) → Store → Prop
  | .normal, T, S | .ret, T, S => ∃ (V : Nat → SV) (L : List SObj), T = outT V ∧ S = outS L ∧ FrzS L (packS (ts.map V)) r
  | _, _, _ => False
theorem ret_c {ts : List Nat} {r : SV} (h : FrzS L (packS (ts.map V)) r) : RetC ts r .ret (outT V) (outS L) := ⟨V, L, rfl, rfl, h⟩
theorem ret_cn {ts : List Nat} {r : SV} (h : FrzS L (packS (ts.map V)) r) : RetC ts r .normal (outT V) (outS L) := ⟨V, L, rfl, rfl, h⟩

theorem fn_c {g : FuncId} {fn : Func} {c : Code} {avs : List SV} {r : SV} (ts : List Nat) (hf : P.funcs[g]? = some fn) (hN : fn.ntmps = N) (hb : fn.body = some c) (hr : resTmps fn.results.toList = some ts) (hn : Nat.ble avs.length N = true) (hc : closedL avs = true)
    (h : awpB P 0 N c (RetC ts r) (outT (look (enum 0 avs))) (outS [])) : CS P g avs r := by
  refine ccall_of (closed_outs hc) ?_
  have e0 : Store.empty = outS [] := rfl
  refine acall_introB (n0 := 0) hf hN hb (by simpa using Nat.le_of_ble_eq_true hn) (fun id o h => by simp [Store.empty] at h) ?_
  rw [enum_arg] at h
  refine awpB_mono h ?_
  intro e T S hq
  have key : (∃ (V : Nat → SV) (L : List SObj), T = outT V ∧ S = outS L ∧ FrzS L (packS (ts.map V)) r) →
      ∃ T'' S'' vs, Goes 0 T S T'' S'' ∧ resAll P T'' S'' fn.results.toList = some vs ∧ FrzT S'' (pack vs) r.out := by
    rintro ⟨V, L, rfl, rfl, hf⟩
    refine ⟨_, _, _, goes_refl _ _ _, resTmps_ok hr, ?_⟩
    rw [packS_out]
    exact frzS_ok hf
  cases e with
  | normal => exact ⟨.inl rfl, key hq⟩
  | ret => exact ⟨.inr rfl, key hq⟩
  | _ => exact hq.elim
end
end Go.Sim
