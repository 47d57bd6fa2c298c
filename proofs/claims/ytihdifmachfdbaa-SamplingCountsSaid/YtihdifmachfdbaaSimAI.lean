/- A part of the proof: values and stores in plain Lean, and the rules by which a walk is taken. -/
import Derived.Test.YtihdifmachfdbaaSimAH
set_option autoImplicit false
set_option linter.unusedSimpArgs false
set_option linter.unusedVariables false
namespace Go.Sim
open Go

/-! ### a call that knows some objects of the store alone -/
mutual
def renT (ρ : Nat → Nat) : TV → TV
  | .ptr id g off => .ptr (ρ id) g off
  | .view id g off len => .view (ρ id) g off len
  | .mapr id => .mapr (ρ id)
  | .tup l => .tup (renTL ρ l)
  | v => v
def renTL (ρ : Nat → Nat) : List TV → List TV
  | [] => []
  | v :: l => renT ρ v :: renTL ρ l
end
theorem renTL_map (ρ : Nat → Nat) : ∀ l : List TV, renTL ρ l = l.map (renT ρ)
  | [] => by simp [renTL]
  | v :: l => by simp [renTL, renTL_map ρ l]
def renA (ρ : Nat → Nat) : AObj → AObj
  | .cells g et esz cs => .cells g et esz (cs.map (renT ρ))
  | .map es c => .map (es.map fun e => (renT ρ e.1, renT ρ e.2.1, e.2.2)) c
/-- Values that can be taken over: references, or closed values. -/
inductive Plain (n : Nat) : TV → Prop where
  | ptr (id g off : Nat) (h : id < n) : Plain n (.ptr id g off)
  | view (id g off len : Nat) (h : id < n) : Plain n (.view id g off len)
  | mapr (id : Nat) (h : id < n) : Plain n (.mapr id)
  | tup (l : List TV) (h : ∀ v ∈ l, Plain n v) : Plain n (.tup l)
  | closed (v : TV) (h : Closed v) : Plain n v
def PlainO (n : Nat) : AObj → Prop
  | .cells _ _ _ cs => ∀ v ∈ cs, Plain n v
  | .map es _ => ∀ e ∈ es, Plain n e.1 ∧ Plain n e.2.1

theorem renT_closed {ρ : Nat → Nat} {v : TV} (h : Closed v) : renT ρ v = v := by
  induction h with
  | tup l h ih =>
    rw [renT, renTL_map]
    congr 1
    have e : l.map (renT ρ) = l.map id := List.map_congr_left fun v hv => ih v hv
    simpa using e
  | _ => simp [renT]
theorem renT_one (ρ : Nat → Nat) (v : TV) : (renT ρ v).one = v.one := by cases v <;> simp [renT, TV.one]
theorem renA_gen (ρ : Nat → Nat) (o : AObj) : (renA ρ o).gen = o.gen := by cases o <;> rfl
theorem renA_sort (ρ : Nat → Nat) (o : AObj) : (renA ρ o).sort = o.sort := by cases o <;> rfl

structure Part (n : Nat) (ρ : Nat → Nat) (s S : Store) : Prop where
  next : s.next = n
  objs : ∀ i, i < n → S.get (ρ i) = (s.get i).map (renA ρ)
  inj : ∀ i j, i < n → j < n → ρ i = ρ j → i = j
  lt : ∀ i, i < n → ρ i < S.next
  fresh : ∀ i, n ≤ i → s.get i = none
  plain : ∀ i o, s.get i = some o → PlainO n o

def Other (n : Nat) (ρ : Nat → Nat) (j : Nat) : Prop := ∀ i, i < n → ρ i ≠ j

section
variable {P : Program} {F : Nat → Prop} {φ : Env} {S s : Store} {w : World} {n : Nat} {ρ : Nat → Nat}

def subEnv (φ : Env) (ρ : Nat → Nat) : Env := ⟨fun i => φ.blk (ρ i), fun i => φ.base (ρ i), fun i => φ.sz (ρ i)⟩
def othF (n : Nat) (ρ : Nat → Nat) (F : Nat → Prop) (φ : Env) (S : Store) (b : Nat) : Prop := F b ∨ ∃ j o, S.get j = some o ∧ Other n ρ j ∧ φ.blk j = b

theorem image_or (n : Nat) (ρ : Nat → Nat) (j : Nat) : (∃ i, i < n ∧ ρ i = j) ∨ Other n ρ j := by
  by_cases h : ∃ i, i < n ∧ ρ i = j
  · exact .inl h
  · exact .inr fun i hi e => h ⟨i, hi, e⟩

theorem mut_eq (hp : Part n ρ s S) : Mut (othF n ρ F φ S) (subEnv φ ρ) s = Mut F φ S := by
  funext b
  apply propext
  constructor
  · rintro ((hF | ⟨j, o, h1, h2, h3⟩) | ⟨i, o, h1, h2⟩)
    · exact .inl hF
    · exact .inr ⟨j, o, h1, h3⟩
    · have hi : i < n := by
        rcases Nat.lt_or_ge i n with h | h
        · exact h
        · rw [hp.fresh i h] at h1; cases h1
      exact .inr ⟨ρ i, renA ρ o, by rw [hp.objs i hi, h1]; rfl, h2⟩
  · rintro (hF | ⟨j, o, h1, h2⟩)
    · exact .inl (.inl hF)
    · rcases image_or n ρ j with ⟨i, hi, rfl⟩ | ho
      · rw [hp.objs i hi] at h1
        cases hs : s.get i with
        | none => rw [hs] at h1; cases h1
        | some o' => exact .inr ⟨i, o', hs, h2⟩
      · exact .inl (.inr ⟨j, o, h1, ho, h2⟩)

/-- From the whole store to the part. -/
theorem rep_down (hp : Part n ρ s S) {M : Nat → Prop} {v : TV} {x : Value} (hv : Plain n v) (h : TRep w M φ S (renT ρ v) x) : TRep w M (subEnv φ ρ) s v x := by
  induction hv generalizing x with
  | ptr id g off hid =>
    rw [renT] at h
    cases h with
    | ptr _ _ _ a o h1 h2 h3 =>
      rw [hp.objs id hid] at h1
      cases hs : s.get id with
      | none => rw [hs] at h1; cases h1
      | some o' =>
        rw [hs] at h1
        injection h1 with h1
        subst h1
        exact .ptr id g off a o' hs (by rw [← renA_gen ρ]; exact h2) fun e => h3 (by rw [renA_gen]; exact e)
  | view id g off len hid =>
    rw [renT] at h
    cases h with
    | view _ _ _ _ a cap o hc he h1 h2 h3 =>
      rw [hp.objs id hid] at h1
      cases hs : s.get id with
      | none => rw [hs] at h1; cases h1
      | some o' =>
        rw [hs] at h1
        injection h1 with h1
        subst h1
        exact .view id g off len a cap o' hc he hs (by rw [← renA_gen ρ]; exact h2) fun e => by
          obtain ⟨q1, q2⟩ := h3 (by rw [renA_gen]; exact e)
          exact ⟨q1, fun et esz hs => q2 et esz (by rw [renA_sort]; exact hs)⟩
  | mapr id hid =>
    rw [renT] at h
    cases h with
    | mapr _ o h1 h2 =>
      rw [hp.objs id hid] at h1
      cases hs : s.get id with
      | none => rw [hs] at h1; cases h1
      | some o' =>
        rw [hs] at h1
        injection h1 with h1
        subst h1
        have := TRep.mapr (w := w) (M := M) (φ := subEnv φ ρ) (S := s) id o' hs (by rw [← renA_sort ρ]; exact h2)
        exact this
  | tup l hl ih =>
    rw [renT, renTL_map] at h
    cases h with
    | tup _ cs hlen hh =>
      simp only [List.length_map] at hlen hh
      refine .tup l cs hlen fun i hi v hv => ih l[i] (List.getElem_mem hi) ?_
      have := hh i hi v hv
      simpa using this
  | closed v hc =>
    rw [renT_closed hc] at h
    exact hc.mono (fun _ _ _ => rfl) (fun _ _ h => h) h
/-- And back. -/
theorem rep_up {φ' : Env} {S' s' : Store} {φs : Env} (hob : ∀ i o, s'.get i = some o → S'.get (ρ i) = some (renA ρ o)) (hφ : ∀ i o, s'.get i = some o → φ'.blk (ρ i) = φs.blk i ∧ φ'.base (ρ i) = φs.base i ∧ φ'.sz (ρ i) = φs.sz i)
    {M : Nat → Prop} {v : TV} {x : Value} {m : Nat} (hv : Plain m v) (h : TRep w M φs s' v x) : TRep w M φ' S' (renT ρ v) x := by
  induction hv generalizing x with
  | ptr id g off hid =>
    rw [renT]
    cases h with
    | ptr _ _ _ a o h1 h2 h3 =>
      obtain ⟨q1, q2, q3⟩ := hφ id o h1
      exact .ptr _ g off a _ (hob id o h1) (by rw [renA_gen]; exact h2) fun e => by rw [h3 (by rw [renA_gen] at e; exact e), q1, q2]
  | view id g off len hid =>
    rw [renT]
    cases h with
    | view _ _ _ _ a cap o hc he h1 h2 h3 =>
      obtain ⟨q1, q2, q3⟩ := hφ id o h1
      refine .view _ g off len a cap _ hc he (hob id o h1) (by rw [renA_gen]; exact h2) fun e => ?_
      obtain ⟨r1, r2⟩ := h3 (by rw [renA_gen] at e; exact e)
      refine ⟨fun hc => by rw [r1 hc, q1, q2], fun et esz hs => ?_⟩
      rw [q2, q3]
      exact r2 et esz (by rw [renA_sort] at hs; exact hs)
  | mapr id hid =>
    rw [renT]
    cases h with
    | mapr _ o h1 h2 =>
      obtain ⟨q1, q2, q3⟩ := hφ id o h1
      have := TRep.mapr (w := w) (M := M) (φ := φ') (S := S') (ρ id) _ (hob id o h1) (by rw [renA_sort]; exact h2)
      rw [q1] at this
      exact this
  | tup l hl ih =>
    rw [renT, renTL_map]
    cases h with
    | tup _ cs hlen hh =>
      refine .tup _ cs (by simpa using hlen) fun i hi v hv => ?_
      simp only [List.length_map] at hi
      simp only [List.getElem_map]
      exact ih l[i] (List.getElem_mem hi) (hh i hi v hv)
  | closed v hc =>
    rw [renT_closed hc]
    exact hc.mono (fun _ _ _ => rfl) (fun _ _ h => h) h

theorem part_ok (hp : Part n ρ s S) (hok : StoreOK F φ S w) : StoreOK (othF n ρ F φ S) (subEnv φ ρ) s w := by
  have hlt : ∀ j o, S.get j = some o → φ.blk j < w.heap.size := fun j o h => by
    have := hok.obj j o h
    cases o with
    | cells g et esz cs => obtain ⟨arr, h1, _⟩ := this; exact (Array.getElem?_eq_some_iff.1 h1).1
    | map es c => obtain ⟨arr, h1, _⟩ := this; exact (Array.getElem?_eq_some_iff.1 h1).1
  have hbig : ∀ i o, s.get i = some o → i < n ∧ S.get (ρ i) = some (renA ρ o) := fun i o h => by
    have hi : i < n := by
      rcases Nat.lt_or_ge i n with h' | h'
      · exact h'
      · rw [hp.fresh i h'] at h; cases h
    exact ⟨hi, by rw [hp.objs i hi, h]; rfl⟩
  refine ⟨fun i o h => ?_, fun i hi => hp.fresh i (by rw [← hp.next]; exact hi), fun i j o o' h1 h2 he => ?_, fun i o h => ?_, fun b hb => ?_⟩
  · obtain ⟨hi, hS⟩ := hbig i o h
    have := hok.obj _ _ hS
    have hpl := hp.plain i o h
    rw [mut_eq hp]
    cases o with
    | cells g et esz cs =>
      obtain ⟨arr, a1, a2, a3, a4⟩ := this
      refine ⟨arr, a1, a2, by have := a3; simp only [List.length_map] at this; exact this, fun k hk v hv => ?_⟩
      have := a4 k (by simpa using hk) v hv
      simp only [List.getElem_map, renT_one] at this
      exact ⟨this.1, rep_down hp (hpl _ (List.getElem_mem hk)) this.2⟩
    | map es c =>
      obtain ⟨arr, a1, a2, a3⟩ := this
      refine ⟨arr, a1, by simpa using a2, fun k hk e he => ?_⟩
      have := a3 k (by simpa using hk) e he
      simp only [List.getElem_map] at this
      obtain ⟨p1, p2⟩ := hpl _ (List.getElem_mem hk)
      exact ⟨rep_down hp p1 this.1, rep_down hp p2 this.2.1, this.2.2⟩
  · obtain ⟨hi, h3⟩ := hbig i o h1
    obtain ⟨hj, h4⟩ := hbig j o' h2
    exact hp.inj i j hi hj (hok.inj _ _ _ _ h3 h4 he)
  · obtain ⟨hi, h3⟩ := hbig i o h
    rintro (hF | ⟨j, o2, q1, q2, q3⟩)
    · exact hok.far _ _ h3 hF
    · have := hok.inj _ _ _ _ q1 h3 q3
      exact q2 i hi this.symm
  · rcases hb with hb | ⟨j, o, h1, _, rfl⟩
    · exact hok.old b hb
    · exact hlt j o h1

open Classical in
/-- The places behind the call. -/
noncomputable def upEnv (n : Nat) (ρ : Nat → Nat) (φ φs : Env) : Env :=
  ⟨fun j => if h : ∃ i, i < n ∧ ρ i = j then φs.blk h.choose else φ.blk j, fun j => if h : ∃ i, i < n ∧ ρ i = j then φs.base h.choose else φ.base j, fun j => if h : ∃ i, i < n ∧ ρ i = j then φs.sz h.choose else φ.sz j⟩

theorem upEnv_in {φs : Env} (hinj : ∀ i j, i < n → j < n → ρ i = ρ j → i = j) {i : Nat} (hi : i < n) : (upEnv n ρ φ φs).blk (ρ i) = φs.blk i ∧ (upEnv n ρ φ φs).base (ρ i) = φs.base i ∧ (upEnv n ρ φ φs).sz (ρ i) = φs.sz i := by
  have h : ∃ k, k < n ∧ ρ k = ρ i := ⟨i, hi, rfl⟩
  have e : h.choose = i := hinj _ _ h.choose_spec.1 hi h.choose_spec.2
  simp only [upEnv, dif_pos h, e, and_self]
theorem upEnv_out {φs : Env} {j : Nat} (h : Other n ρ j) : (upEnv n ρ φ φs).blk j = φ.blk j ∧ (upEnv n ρ φ φs).base j = φ.base j ∧ (upEnv n ρ φ φs).sz j = φ.sz j := by
  have h' : ¬ ∃ i, i < n ∧ ρ i = j := fun ⟨i, hi, e⟩ => h i hi e
  simp only [upEnv, dif_neg h', and_self]

/-- The frame rule for calls. -/
theorem acall_frame {g : FuncId} {avs : List TV} {r : TV} {s' S' : Store} (hp : Part n ρ s S) (ha : ∀ v ∈ avs, Plain n v) (hc : ACall P g avs s fun r' s2 => r' = r ∧ s2 = s') (hr : Plain n r) (hn' : s'.next = n) (hpl : ∀ i o, s'.get i = some o → PlainO n o)
    (hS1 : ∀ i, i < n → S'.get (ρ i) = (s'.get i).map (renA ρ)) (hS2 : ∀ j, Other n ρ j → S'.get j = S.get j) (hS3 : S'.next = S.next) :
    ACall P g (avs.map (renT ρ)) S fun r' S2 => r' = renT ρ r ∧ S2 = S' := by
  intro F φ w args hok hl
  have hok1 := part_ok hp hok
  have hm := mut_eq (F := F) (φ := φ) hp
  have hl1 : ListRep w (Mut (othF n ρ F φ S) (subEnv φ ρ) s) (subEnv φ ρ) s avs args.toList := by
    refine ⟨by rw [← hl.1]; simp, fun i hi y hy => ?_⟩
    rw [hm]
    have := hl.2 i (by simpa using hi) y hy
    simp only [List.getElem_map] at this
    exact rep_down hp (ha _ (List.getElem_mem hi)) this
  refine (hc _ _ w args hok1 hl1).mono ?_
  rintro e w' ⟨x, r', s2, φs, rfl, ⟨rfl, rfl⟩, hrep, hok', hx⟩
  have hin : ∀ i, i < n → (upEnv n ρ φ φs).blk (ρ i) = φs.blk i ∧ (upEnv n ρ φ φs).base (ρ i) = φs.base i ∧ (upEnv n ρ φ φs).sz (ρ i) = φs.sz i := fun i hi => upEnv_in hp.inj hi
  have hlt' : ∀ i o, s2.get i = some o → i < n := fun i o h => by
    rcases Nat.lt_or_ge i n with h' | h'
    · exact h'
    · rw [hok'.fresh i (by rw [hn']; exact h')] at h; cases h
  have hob : ∀ i o, s2.get i = some o → S'.get (ρ i) = some (renA ρ o) := fun i o h => by rw [hS1 i (hlt' i o h), h]; rfl
  have hltS : ∀ j o, S.get j = some o → φ.blk j < w.heap.size := fun j o h => by
    have := hok.obj j o h
    cases o with
    | cells g et esz cs => obtain ⟨arr, h1, _⟩ := this; exact (Array.getElem?_eq_some_iff.1 h1).1
    | map es c => obtain ⟨arr, h1, _⟩ := this; exact (Array.getElem?_eq_some_iff.1 h1).1
  have hm2 : Mut (othF n ρ F φ S) φs s2 = Mut F (upEnv n ρ φ φs) S' := by
    funext b
    apply propext
    constructor
    · rintro ((hF | ⟨j, o, h1, h2, h3⟩) | ⟨i, o, h1, h2⟩)
      · exact .inl hF
      · exact .inr ⟨j, o, by rw [hS2 j h2]; exact h1, by rw [(upEnv_out h2).1]; exact h3⟩
      · exact .inr ⟨ρ i, _, hob i o h1, by rw [(hin i (hlt' i o h1)).1]; exact h2⟩
    · rintro (hF | ⟨j, o, h1, h2⟩)
      · exact .inl (.inl hF)
      · rcases image_or n ρ j with ⟨i, hi, rfl⟩ | ho
        · rw [hS1 i hi] at h1
          cases hs : s2.get i with
          | none => rw [hs] at h1; cases h1
          | some o' => exact .inr ⟨i, o', hs, by rw [← (hin i hi).1]; exact h2⟩
        · exact .inl (.inr ⟨j, o, by rw [← hS2 j ho]; exact h1, ho, by rw [← (upEnv_out (φs := φs) ho).1]; exact h2⟩)
  have hkept : ∀ b, b < w.heap.size → ¬ Mut F φ S b → w'.heap[b]? = w.heap[b]? := fun b hb h => hx.kept b hb fun hl => h (by rw [← hm]; exact .inr hl)
  have hless : ∀ b, b < w.heap.size → Mut F (upEnv n ρ φ φs) S' b → Mut F φ S b := fun b hb h => by
    rw [← hm2] at h
    rw [← hm]
    exact Mut.of_ext hx b hb h
  have hobjs : ∀ id o, S.get id = some o → ∃ o', S'.get id = some o' ∧ o.gen ≤ o'.gen ∧ o'.sort = o.sort ∧ (o.gen = o'.gen → (upEnv n ρ φ φs).blk id = φ.blk id ∧ (upEnv n ρ φ φs).base id = φ.base id ∧ (upEnv n ρ φ φs).sz id = φ.sz id) := fun id o h => by
    rcases image_or n ρ id with ⟨i, hi, rfl⟩ | ho
    · rw [hp.objs i hi] at h
      cases hs : s.get i with
      | none => rw [hs] at h; cases h
      | some o1 =>
        rw [hs] at h
        injection h with h
        subst h
        obtain ⟨o2, q1, q2, q3, q4⟩ := hx.objs i o1 hs
        refine ⟨renA ρ o2, hob i o2 q1, by rw [renA_gen, renA_gen]; exact q2, by rw [renA_sort, renA_sort]; exact q3, fun e => ?_⟩
        rw [renA_gen, renA_gen] at e
        obtain ⟨z1, z2, z3⟩ := q4 e
        obtain ⟨y1, y2, y3⟩ := hin i hi
        exact ⟨y1.trans z1, y2.trans z2, y3.trans z3⟩
    · exact ⟨o, by rw [hS2 id ho]; exact h, Nat.le_refl _, rfl, fun _ => upEnv_out ho⟩
  have hmono : ∀ v x, TRep w (Mut F φ S) φ S v x → TRep w' (Mut F (upEnv n ρ φ φs) S') (upEnv n ρ φ φs) S' v x := fun v x h => h.mono hkept hless hobjs
  have hup : ∀ m v x, Plain m v → TRep w' (Mut (othF n ρ F φ S) φs s2) φs s2 v x → TRep w' (Mut F (upEnv n ρ φ φs) S') (upEnv n ρ φ φs) S' (renT ρ v) x := fun m v x hv h => by
    rw [hm2] at h
    exact rep_up hob (fun i o h => hin i (hlt' i o h)) hv h
  refine ⟨x, _, S', upEnv n ρ φ φs, rfl, ⟨rfl, rfl⟩, hup n _ x hr hrep, ⟨fun j o h => ?_, fun j hj => ?_, fun i j o o' h1 h2 he => ?_, fun j o h => ?_, fun b hb => Nat.lt_of_lt_of_le (hok.old b hb) hx.size⟩, ⟨hx.size, ?_, ?_, hobjs, hx.os, hx.tape, hx.output⟩⟩
  · rcases image_or n ρ j with ⟨i, hi, rfl⟩ | ho
    · rw [hS1 i hi] at h
      cases hs : s2.get i with
      | none => rw [hs] at h; cases h
      | some o1 =>
        rw [hs] at h
        injection h with h
        subst h
        have := hok'.obj i o1 hs
        have hq := hpl i o1 hs
        obtain ⟨y1, y2, y3⟩ := hin i hi
        cases o1 with
        | cells g et esz cs =>
          obtain ⟨arr, a1, a2, a3, a4⟩ := this
          refine ⟨arr, by rw [y1]; exact a1, by rw [y3]; exact a2, by rw [y2]; simpa using a3, fun k hk v hv => ?_⟩
          rw [y2] at hv
          have := a4 k (by simpa using hk) v hv
          simp only [List.getElem_map, renT_one]
          exact ⟨this.1, hup n _ v (hq _ (List.getElem_mem _)) this.2⟩
        | map es c =>
          obtain ⟨arr, a1, a2, a3⟩ := this
          refine ⟨arr, by rw [y1]; exact a1, by simpa using a2, fun k hk e he => ?_⟩
          have := a3 k (by simpa using hk) e he
          obtain ⟨p1, p2⟩ := hq _ (List.getElem_mem (by simpa using hk : k < es.length))
          simp only [List.getElem_map]
          exact ⟨hup n _ _ p1 this.1, hup n _ _ p2 this.2.1, this.2.2⟩
    · rw [hS2 j ho] at h
      have := hok.obj j o h
      obtain ⟨y1, y2, y3⟩ := upEnv_out (φ := φ) (φs := φs) ho
      have hb := hltS j o h
      have hsame : w'.heap[φ.blk j]? = w.heap[φ.blk j]? := hx.kept _ hb fun ⟨i, o2, q1, q2⟩ => by
        have hi : i < n := by
          rcases Nat.lt_or_ge i n with h' | h'
          · exact h'
          · rw [hp.fresh i h'] at q1; cases q1
        have q3 : S.get (ρ i) = some (renA ρ o2) := by rw [hp.objs i hi, q1]; rfl
        exact ho i hi (hok.inj _ _ _ _ q3 h q2)
      cases o with
      | cells g et esz cs =>
        obtain ⟨arr, a1, a2, a3, a4⟩ := this
        exact ⟨arr, by rw [y1, hsame]; exact a1, by rw [y3]; exact a2, by rw [y2]; exact a3, fun k hk v hv => by rw [y2] at hv; exact ⟨(a4 k hk v hv).1, hmono _ _ (a4 k hk v hv).2⟩⟩
      | map es c =>
        obtain ⟨arr, a1, a2, a3⟩ := this
        exact ⟨arr, by rw [y1, hsame]; exact a1, a2, fun k hk e he => ⟨hmono _ _ (a3 k hk e he).1, hmono _ _ (a3 k hk e he).2.1, (a3 k hk e he).2.2⟩⟩
  · rw [hS3] at hj
    rcases image_or n ρ j with ⟨i, hi, rfl⟩ | ho
    · have := hp.lt i hi
      omega
    · rw [hS2 j ho]
      exact hok.fresh j hj
  · have key : ∀ a b oa ob, (∃ i, i < n ∧ ρ i = a) → Other n ρ b → S'.get a = some oa → S'.get b = some ob → (upEnv n ρ φ φs).blk a ≠ (upEnv n ρ φ φs).blk b := by
      rintro a b oa ob ⟨i, hi, rfl⟩ hb q1 q2 he
      rw [hS1 i hi] at q1
      cases hs : s2.get i with
      | none => rw [hs] at q1; cases q1
      | some o1 =>
        refine hok'.far i o1 hs (.inr ⟨b, ob, by rw [← hS2 b hb]; exact q2, hb, ?_⟩)
        rw [(hin i hi).1, (upEnv_out hb).1] at he
        exact he.symm
    rcases image_or n ρ i with hi | hi <;> rcases image_or n ρ j with hj | hj
    · obtain ⟨i, hi, rfl⟩ := hi
      obtain ⟨j, hj, rfl⟩ := hj
      rw [hS1 i hi] at h1
      rw [hS1 j hj] at h2
      cases hs1 : s2.get i with
      | none => rw [hs1] at h1; cases h1
      | some o1 =>
        cases hs2 : s2.get j with
        | none => rw [hs2] at h2; cases h2
        | some o2 =>
          rw [(hin i hi).1, (hin j hj).1] at he
          rw [hok'.inj i j o1 o2 hs1 hs2 he]
    · exact absurd he (key i j o o' hi hj h1 h2)
    · exact absurd he.symm (key j i o' o hj hi h2 h1)
    · rw [hS2 i hi] at h1
      rw [hS2 j hj] at h2
      rw [(upEnv_out hi).1, (upEnv_out hj).1] at he
      exact hok.inj i j o o' h1 h2 he
  · rcases image_or n ρ j with ⟨i, hi, rfl⟩ | ho
    · rw [hS1 i hi] at h
      cases hs : s2.get i with
      | none => rw [hs] at h; cases h
      | some o1 =>
        rw [(hin i hi).1]
        exact fun hF => hok'.far i o1 hs (.inl hF)
    · rw [hS2 j ho] at h
      rw [(upEnv_out ho).1]
      exact hok.far j o h
  · intro b hb hl
    refine hx.kept b hb fun ⟨i, o, q1, q2⟩ => hl ?_
    have hi : i < n := by
      rcases Nat.lt_or_ge i n with h' | h'
      · exact h'
      · rw [hp.fresh i h'] at q1; cases q1
    exact ⟨ρ i, renA ρ o, by rw [hp.objs i hi, q1]; rfl, q2⟩
  · rintro b hb ⟨j, o, h1, h2⟩
    rcases image_or n ρ j with ⟨i, hi, rfl⟩ | ho
    · rw [hS1 i hi] at h1
      cases hs : s2.get i with
      | none => rw [hs] at h1; cases h1
      | some o1 =>
        rw [(hin i hi).1] at h2
        obtain ⟨k, o3, q1, q2⟩ := hx.liv b hb ⟨i, o1, hs, h2⟩
        have hk : k < n := by
          rcases Nat.lt_or_ge k n with h' | h'
          · exact h'
          · rw [hp.fresh k h'] at q1; cases q1
        exact ⟨ρ k, renA ρ o3, by rw [hp.objs k hk, q1]; rfl, q2⟩
    · rw [hS2 j ho] at h1
      rw [(upEnv_out ho).1] at h2
      exact ⟨j, o, h1, h2⟩
end
end Go.Sim
