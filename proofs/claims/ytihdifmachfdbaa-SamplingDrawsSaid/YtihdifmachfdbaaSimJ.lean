/- A part of the proof: values and stores in plain Lean, and the rules by which a walk is taken. -/
import Derived.Test.YtihdifmachfdbaaSimI
set_option autoImplicit false
set_option linter.unusedSimpArgs false
set_option linter.unusedVariables false
namespace Go.Sim
open Go

section
variable {P : Program} {N : Nat} {F : Nat → Prop} {φ : Env} {T : Nat → TV} {S : Store} {a : Act} {w : World} {M : Nat → Prop}

/-! ### literals -/
theorem fold_set (off : Nat) : ∀ (l : List Value) (k : Nat) (cells : Array Value), off + k + l.length ≤ cells.size →
    (l.zipIdx k).foldl (fun cs (cj : Value × Nat) => cs.setIfInBounds (off + cj.2) cj.1) cells = (splice cells.toList (off + k) l).toArray
  | [], k, cells, _ => by simp [splice]
  | v :: l, k, cells, h => by
    simp at h
    simp only [List.zipIdx_cons, List.foldl_cons]
    rw [fold_set off l (k + 1) _ (by simp; omega)]
    congr 1
    apply List.ext_getElem?
    intro i
    have h1 : off + (k + 1) + l.length ≤ (cells.setIfInBounds (off + k) v).toList.length := by simp; omega
    have h2 : off + k + (v :: l).length ≤ cells.toList.length := by simp; omega
    rw [splice_get h1, splice_get h2]
    simp only [Array.getElem?_toList, List.length_cons]
    by_cases c1 : i < off + k
    · rw [if_pos (by omega), if_pos c1, Array.getElem?_setIfInBounds, if_neg (by omega)]
    · rw [if_neg c1]
      by_cases c2 : i = off + k
      · subst c2
        rw [if_pos (by omega), if_pos (by omega), Array.getElem?_setIfInBounds, if_pos rfl, if_pos (by omega)]
        simp
      · by_cases c3 : i < off + (k + 1) + l.length
        · rw [if_neg (by omega), if_pos c3, if_pos (by omega)]
          rw [show i - (off + k) = (i - (off + (k + 1))) + 1 from by omega]
          simp
        · rw [if_neg (by omega), if_neg c3, if_neg (by omega), Array.getElem?_setIfInBounds, if_neg (by omega)]

def tvFill (place : Nat → Option (Nat × Nat)) : List TV → List (Nat × TV) → Option (List TV)
  | cs, [] => some cs
  | cs, (i, v) :: rest => match place i with
    | some (off, size) => if (cellsOf v).length = size ∧ off + (cellsOf v).length ≤ cs.length ∧ (cellsOf v).all TV.one = true then tvFill place (splice cs off (cellsOf v)) rest else none
    | none => none

theorem tvFill_ok (place : Nat → Option (Nat × Nat)) : ∀ (parts : List (Nat × TV)) (vals : List (Nat × Value)) (cs cs' : List TV) (arr : Array Value),
    (parts.length = vals.length ∧ ∀ k (h : k < parts.length) p, vals[k]? = some p → parts[k].1 = p.1 ∧ TRep w M φ S parts[k].2 p.2) → cs.length = arr.size →
    (∀ i (hi : i < cs.length) v, arr[i]? = some v → cs[i].one = true ∧ TRep w M φ S cs[i] v) → tvFill place cs parts = some cs' →
    ∃ arr', Instr.fill place arr vals = some arr' ∧ arr'.size = arr.size ∧ cs'.length = arr'.size ∧ ∀ i (hi : i < cs'.length) v, arr'[i]? = some v → cs'[i].one = true ∧ TRep w M φ S cs'[i] v
  | [], vals, cs, cs', arr, h, hl, hr, hf => by
    have : vals = [] := List.eq_nil_of_length_eq_zero (by simpa using h.1.symm)
    subst this
    simp [tvFill] at hf
    subst hf
    exact ⟨arr, rfl, rfl, hl, hr⟩
  | (i, v) :: rest, [], cs, cs', arr, h, hl, hr, hf => by simp at h
  | (i, v) :: rest, (j, x) :: vals, cs, cs', arr, h, hl, hr, hf => by
    obtain ⟨h1, h2⟩ := h
    have h0 := h2 0 (by simp) (j, x) rfl
    simp at h0
    obtain ⟨rfl, hv⟩ := h0
    simp only [tvFill] at hf
    split at hf
    · rename_i off size hp
      split at hf
      · rename_i hc
        obtain ⟨c1, c2, c3⟩ := hc
        obtain ⟨b1, b2, b3⟩ := rep_cells hv c3
        have hfold : x.cells.zipIdx.foldl (fun cs (cj : Value × Nat) => cs.setIfInBounds (off + cj.2) cj.1) arr = (splice arr.toList off x.cells.toList).toArray := by
          have := fold_set off x.cells.toList 0 arr (by simp; omega)
          simp only [Nat.add_zero] at this
          rw [← this, ← Array.foldl_toList, Array.toList_zipIdx]
        have hlen : off + x.cells.toList.length ≤ arr.toList.length := by simp; omega
        have hsl := splice_len hlen
        have hrep := splice_rep (w := w) (M := M) (φ := φ) (S := S) (cs := cs) (l := cellsOf v) (arr := arr) (vs := x.cells.toList) (base := 0) (off := off) c2 (by omega) (by simp [b1])
          (fun i hi => by
            obtain ⟨u, hu⟩ := getElem?_of_size (arr := arr) (i := i) (by omega)
            obtain ⟨q1, q2⟩ := hr i hi u hu
            exact ⟨u, by simpa using hu, q1, q2⟩)
          (fun i hi y hy => by
            simp only [List.all_eq_true] at c3
            exact ⟨c3 _ (List.getElem_mem _), b2 i hi y (by simpa using hy)⟩)
        obtain ⟨arr', e1, e2, e3, e4⟩ := tvFill_ok place rest vals (splice cs off (cellsOf v)) cs' (splice arr.toList off x.cells.toList).toArray
          ⟨by simpa using h1, fun k hk p hp => by
            have := h2 (k + 1) (by simp; omega) p (by simpa using hp)
            simpa using this⟩ (by rw [splice_len c2]; simp [hsl]; exact hl)
          (fun i hi u hu => hrep i hi u (by simpa [splice] using hu)) hf
        refine ⟨arr', ?_, by rw [e2]; simp [hsl], e3, e4⟩
        rw [Instr.fill]
        have hsz : x.cells.size = size := by rw [← b1, c1]
        simp only [hp, hsz, ne_eq, not_true_eq_false, decide_false, Bool.false_or]
        have hno : ¬ (off + size > arr.size) := by omega
        simp only [hno, decide_false, Bool.false_eq_true, if_false]
        rw [← e1]
        congr 1
      · simp at hf
    · simp at hf

/-- The parts of a literal. -/
def evParts (T : Nat → TV) (parts : Array (Nat × Operand)) : List (Nat × TV) := parts.toList.map fun p => (p.1, ev T p.2)

theorem parts_ok (hs : SRep N F φ T S a w) (parts : Array (Nat × Operand)) :
    (evParts T parts).length = ((parts.map fun (i, x) => (i, a.eval x)).toList).length ∧ ∀ k (h : k < (evParts T parts).length) p, ((parts.map fun (i, x) => (i, a.eval x)).toList)[k]? = some p →
      (evParts T parts)[k].1 = p.1 ∧ TRep w (Mut F φ S) φ S (evParts T parts)[k].2 p.2 := by
  refine ⟨by simp [evParts], fun k h p hp => ?_⟩
  simp [evParts] at h
  simp [h] at hp
  subst hp
  simp only [evParts, List.getElem_map, Array.getElem_toList]
  exact ⟨by trivial, ev_rep hs _⟩

def tvBuildSlice (P : Program) (S : Store) (t : TypeId) (len : Nat) (parts : List (Nat × TV)) : Option (TV × Store) := match P.underlying t with
  | some (.slice e) => match szOf P e, zeroCs P e with
    | some sz, some zs => if 0 < zs.length ∧ len * sz ≤ 16777216 then match tvFill (fun i => some (i * sz, sz)) (zrow zs (len * sz)) parts with
        | some cs => some (.view S.next 0 0 len, S.push (.cells 0 e sz cs))
        | none => none
      else none
    | _, _ => none
  | _ => none

theorem tvBuildSlice_ok {t : TypeId} {len : Nat} {parts : List (Nat × TV)} {vals : Array (Nat × Value)} {v : TV} {S' : Store} (hok : StoreOK F φ S w) (h : tvBuildSlice P S t len parts = some (v, S'))
    (hp : parts.length = vals.toList.length ∧ ∀ k (h : k < parts.length) p, vals.toList[k]? = some p → parts[k].1 = p.1 ∧ TRep w (Mut F φ S) φ S parts[k].2 p.2) :
    ∃ x w' φ', (Instr.buildSlice t len vals).run P w = .ok x w' ∧ StoreOK F φ' S' w' ∧ Ext φ S w φ' S' w' ∧ TRep w' (Mut F φ' S') φ' S' v x := by
  unfold tvBuildSlice at h
  split at h
  · rename_i e hu
    split at h
    · rename_i sz zs hsz hzs
      split at h
      · rename_i hc
        obtain ⟨hz0, hlim⟩ := hc
        split at h
        · rename_i cs hf
          simp at h
          obtain ⟨rfl, rfl⟩ := h
          obtain ⟨z, hr, hzl, hzc⟩ := zeroCs_ok (P := P) (w := w) (M := Mut F φ S) hzs
          obtain ⟨arr', e1, e2, e3, e4⟩ := tvFill_ok _ parts vals.toList (zrow zs (len * sz)) cs ((Array.range (len * sz)).map (z.cells[· % z.cells.size]!)) hp (by rw [zrow_len]; simp)
            (zrow_rep hzl hzc hz0 (Nat.le_refl _)) hf
          simp at e2
          obtain ⟨b1, b2⟩ := push_cells (w := w) hok e sz cs arr' (by omega) e4
          refine ⟨.slice (some ⟨w.heap.size, 0, none⟩) len len, _, _, ?_, b1, b2, ?_⟩
          · unfold Instr.buildSlice
            simp only [Sem.run_bind, run_underlying hu, Result.andThen_ok, run_szOf hsz]
            have hno : ¬ (len * sz > 2 ^ 24) := by omega
            simp only [if_neg hno]
            by_cases h0 : len * sz = 0
            · have e0 : (Array.range (len * sz)).map (z.cells[· % z.cells.size]!) = (Array.range (len * sz)).map ((#[] : Array Value)[· % 0]!) := by rw [h0]; apply Array.ext <;> simp
              rw [e0] at e1
              simp only [h0, if_true, Sem.run_bind, Sem.run_pure, Result.andThen_ok]
              simp only [h0] at e1
              simp only [Array.size_empty]
              rw [e1]
              simp only [Sem.run_bind, newRow_run, Result.andThen_ok, Sem.run_pure]
            · simp only [h0, if_false, Sem.run_bind, hr, Result.andThen_ok, Sem.run_pure]
              rw [e1]
              simp only [Sem.run_bind, newRow_run, Result.andThen_ok, Sem.run_pure]
          · refine .view _ _ _ _ _ _ _ (Nat.le_refl _) ⟨_, _, rfl⟩ (by rw [get_push, if_pos rfl]) (Nat.zero_le _) fun _ => ⟨fun _ => by simp [Env.new], fun et esz hs => ?_⟩
            simp [AObj.sort] at hs
            obtain ⟨rfl, rfl⟩ := hs
            simp [Env.new, e2]
        · simp at h
      · simp at h
    · simp at h
  · simp at h

def placesOf (P : Program) (fs : Array Field) : Option (List (Nat × Nat)) := fs.toList.mapM fun f => (P.info? f.type).map fun i => (f.offset, i.size)

def tvBuild (P : Program) (t : TypeId) (parts : List (Nat × TV)) : Option TV := match P.underlying t with
  | some (.struct fs) => match placesOf P fs, zeroCs P t with
    | some ps, some zs => match tvFill (ps[·]?) (zs.map .c) parts with
      | some cs => some (.agg cs)
      | none => none
    | _, _ => none
  | _ => none

theorem tvBuild_ok {t : TypeId} {parts : List (Nat × TV)} {vals : Array (Nat × Value)} {v : TV} (h : tvBuild P t parts = some v)
    (hp : parts.length = vals.toList.length ∧ ∀ k (h : k < parts.length) p, vals.toList[k]? = some p → parts[k].1 = p.1 ∧ TRep w M φ S parts[k].2 p.2) :
    ∃ x, (Instr.build t vals).run P w = .ok x w ∧ TRep w M φ S v x := by
  unfold tvBuild at h
  split at h
  · rename_i fs hu
    split at h
    · rename_i ps zs hps hzs
      split at h
      · rename_i cs hf
        simp at h
        subst h
        obtain ⟨i, hi⟩ := info_of_underlying hu
        have hzs' := hzs
        unfold zeroCs at hzs'
        rw [hi] at hzs'
        simp only at hzs'
        split at hzs'
        · rename_i z hz
          obtain ⟨m1, m2⟩ := mapM_get hzs'
          obtain ⟨arr', e1, e2, e3, e4⟩ := tvFill_ok (w := w) (M := M) (φ := φ) (S := S) _ parts vals.toList (zs.map .c) cs z.cells hp (by simp [m1])
            (fun j hj u hu' => by
              simp at hj
              simp only [List.getElem_map]
              exact ⟨rfl, .c _ _ (ofValue_ok (m2 j hj u (by simpa using hu')))⟩) hf
          refine ⟨.agg arr', run_build w t vals arr' ?_, .agg _ _ e3 fun j hj u hu' => (e4 j hj u hu').2⟩
          unfold Program.built
          unfold placesOf at hps
          simp only [hi, hu, hz, hps]
          rw [← e1]
          congr 1
          funext j
          simp
        · simp at hzs'
      · simp at h
    · simp at h
  · simp at h

/-! ### builtins on plain values -/
def tvLen (P : Program) (S : Store) (t : TypeId) (x : TV) : Option TV := match P.underlying t with
  | some (.slice _) => match x with
    | .c .nilsl => some (.c (.int .i64 0))
    | .c (.sl n _) => some (.c (.int .i64 n))
    | .view _ _ _ n => some (.c (.int .i64 n))
    | _ => none
  | some .string => match x with
    | .c (.str s) => some (.c (.int .i64 s.size))
    | _ => none
  | some (.array n _) => some (.c (.int .i64 n))
  | some (.pointer arr) => match P.underlying arr with
    | some (.array n _) => some (.c (.int .i64 n))
    | _ => none
  | some (.map _ _) => match x with
    | .c .nilmap => some (.c (.int .i64 0))
    | .mapr id => match S.get id with
      | some (.map es _) => some (.c (.int .i64 es.length))
      | _ => none
    | _ => none
  | _ => none

theorem tvLen_ok {t ty : TypeId} {vx v : TV} {x : Value} (hok : StoreOK F φ S w) (h : tvLen P S t vx = some v) (hx : TRep w (Mut F φ S) φ S vx x) :
    ∃ z, (Builtin.len_ #[t] ty #[x]).run P w = .ok z w ∧ TRep w (Mut F φ S) φ S v z := by
  unfold tvLen at h
  split at h
  · rename_i e hu
    split at h <;> simp at h <;> subst h
    · obtain rfl := rep_nilsl hx
      refine ⟨_, ?_, mk_int⟩
      simp [Builtin.len_, run_underlying hu, goInt]
    · cases hx with
      | c v x hx => cases hx <;> refine ⟨_, ?_, mk_int⟩ <;> simp [Builtin.len_, run_underlying hu, goInt]
    · cases hx
      refine ⟨_, ?_, mk_int⟩
      simp [Builtin.len_, run_underlying hu, goInt]
  · rename_i hu
    split at h <;> simp at h <;> subst h
    obtain rfl := rep_str hx
    refine ⟨_, ?_, mk_int⟩
    simp [Builtin.len_, run_underlying hu, goInt]
  · rename_i n e hu
    simp at h
    subst h
    refine ⟨_, ?_, mk_int⟩
    simp [Builtin.len_, run_underlying hu, goInt]
  · rename_i arr hu
    split at h
    · rename_i n e hu2
      simp at h
      subst h
      refine ⟨_, ?_, mk_int⟩
      simp [Builtin.len_, run_underlying hu, run_underlying hu2, goInt]
    · simp at h
  · rename_i k e hu
    split at h
    · simp at h
      subst h
      cases hx with
      | c v x hx => cases hx <;> refine ⟨_, ?_, mk_int⟩ <;> simp [Builtin.len_, run_underlying hu, goInt]
    · rename_i id
      split at h
      · rename_i es ck hg
        simp at h
        subst h
        cases hx with
        | mapr id o h1 h2 =>
          rw [hg] at h1
          injection h1 with h1
          subst h1
          obtain ⟨arr, g1, g2, g3⟩ := hok.obj id _ hg
          refine ⟨_, ?_, mk_int⟩
          simp [Builtin.len_, run_underlying hu, goInt, getObj, Sem.run, g1, g2]
      · simp at h
    · simp at h
  · simp at h

def mx (a b : Int) : Int := if b > a then b else a
def mn (a b : Int) : Int := if b < a then b else a

def tvFold (f : Int → Int → Int) : TV → List TV → Option TV
  | .c (.int k n), [] => some (.c (.int k n))
  | .c (.int k n), .c (.int _ m) :: l => tvFold f (.c (.int k (f n m))) l
  | _, _ => none

theorem tvFold_ok (f : Int → Int → Int) (g : Value → Value → Sem Value) (hg : ∀ k n k' m (w : World), (g (.int k n) (.int k' m)).run P w = .ok (.int k (f n m)) w) :
    ∀ (l : List TV) (vs : List Value) (vx v : TV) (x : Value), tvFold f vx l = some v → TRep w M φ S vx x → l.length = vs.length → (∀ i (hi : i < l.length) y, vs[i]? = some y → TRep w M φ S l[i] y) →
      ∃ z, (vs.foldlM g x).run P w = .ok z w ∧ TRep w M φ S v z := by
  intro l
  induction l with
  | nil =>
    intro vs vx v x h hx hl hr
    have : vs = [] := List.eq_nil_of_length_eq_zero (by simpa using hl.symm)
    subst this
    unfold tvFold at h
    split at h
    · simp at h
      subst h
      exact ⟨x, rfl, hx⟩
    · rename_i e; simp at e
    · simp at h
  | cons u l ih =>
    intro vs vx v x h hx hl hr
    cases vs with
    | nil => simp at hl
    | cons y vs =>
      unfold tvFold at h
      split at h
      · rename_i e; simp at e
      · rename_i k n k' m l' e
        simp at e
        obtain ⟨rfl, rfl⟩ := e
        obtain rfl := rep_int hx
        have hy := hr 0 (by simp) y rfl
        simp at hy
        obtain rfl := rep_int hy
        obtain ⟨z, hz, hv⟩ := ih vs _ v _ h mk_int (by simpa using hl) (fun i hi y' hy' => by
          have := hr (i + 1) (by simp; omega) y' (by simpa using hy')
          simpa using this)
        refine ⟨z, ?_, hv⟩
        simp only [List.foldlM_cons, Sem.run_bind, hg, Result.andThen_ok]
        exact hz
      · simp at h

def tvMax : List TV → Option TV
  | x :: l => tvFold mx x l
  | [] => none
def tvMin : List TV → Option TV
  | x :: l => tvFold mn x l
  | [] => none

theorem args_ok (hs : SRep N F φ T S a w) (xs : Array Operand) : (xs.toList.map (ev T)).length = (xs.map a.eval).toList.length ∧
    ∀ i (hi : i < (xs.toList.map (ev T)).length) y, ((xs.map a.eval).toList)[i]? = some y → TRep w (Mut F φ S) φ S (xs.toList.map (ev T))[i] y := by
  refine ⟨by simp, fun i hi y hy => ?_⟩
  simp at hi
  simp [hi] at hy
  subst hy
  simp only [List.getElem_map, Array.getElem_toList]
  exact ev_rep hs _

theorem tvMax_ok {ats : Array TypeId} {ty : TypeId} {l : List TV} {v : TV} {xs : Array Value} (h : tvMax l = some v) (hl : l.length = xs.toList.length ∧ ∀ i (hi : i < l.length) y, xs.toList[i]? = some y → TRep w M φ S l[i] y) :
    ∃ z, (Builtin.max_ ats ty xs).run P w = .ok z w ∧ TRep w M φ S v z := by
  cases l with
  | nil => simp [tvMax] at h
  | cons u l =>
    cases hx : xs.toList with
    | nil => rw [hx] at hl; simp at hl
    | cons y ys =>
      rw [hx] at hl
      obtain ⟨z, hz, hv⟩ := tvFold_ok (P := P) (w := w) (M := M) (φ := φ) (S := S) mx Builtin.max2 (fun k n k' m w => rfl) l ys u v y h (hl.2 0 (by simp) y rfl) (by simpa using hl.1)
        (fun i hi y' hy' => hl.2 (i + 1) (by simp; omega) y' (by simpa using hy'))
      exact ⟨z, by simp only [Builtin.max_, hx]; exact hz, hv⟩

theorem tvMin_ok {ats : Array TypeId} {ty : TypeId} {l : List TV} {v : TV} {xs : Array Value} (h : tvMin l = some v) (hl : l.length = xs.toList.length ∧ ∀ i (hi : i < l.length) y, xs.toList[i]? = some y → TRep w M φ S l[i] y) :
    ∃ z, (Builtin.min_ ats ty xs).run P w = .ok z w ∧ TRep w M φ S v z := by
  cases l with
  | nil => simp [tvMin] at h
  | cons u l =>
    cases hx : xs.toList with
    | nil => rw [hx] at hl; simp at hl
    | cons y ys =>
      rw [hx] at hl
      obtain ⟨z, hz, hv⟩ := tvFold_ok (P := P) (w := w) (M := M) (φ := φ) (S := S) mn Builtin.min2 (fun k n k' m w => rfl) l ys u v y h (hl.2 0 (by simp) y rfl) (by simpa using hl.1)
        (fun i hi y' hy' => hl.2 (i + 1) (by simp; omega) y' (by simpa using hy'))
      exact ⟨z, by simp only [Builtin.min_, hx]; exact hz, hv⟩
end
end Go.Sim
