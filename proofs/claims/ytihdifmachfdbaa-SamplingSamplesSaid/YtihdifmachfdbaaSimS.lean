/- A part of the proof: values and stores in plain Lean, and the rules by which a walk is taken. -/
import Derived.Test.YtihdifmachfdbaaSimAG
import GoSem.ClaimChange
import Derived.DataReads
set_option autoImplicit false
set_option linter.unusedSimpArgs false
set_option linter.unusedVariables false
namespace Go.Sim
open Go

/-! ### what a law's arguments are, as closed values -/
inductive Sh where
  | int (k : IntKind)
  | bool
  | str
  | sl (e : Sh) (sz : Nat)
  | cat (a b : Sh)
  | nil

def shapeFields (P : Program) (f : TypeId → Option Sh) : List Field → Nat → Nat → Option Sh
  | [], off, tot => if off = tot then some .nil else none
  | fd :: fs, off, tot => if fd.offset = off then match f fd.type, shapeFields P f fs (off + P.cellsOf fd.type) tot with
      | some a, some b => some (.cat a b)
      | _, _ => none
    else none

def shapeOf (P : Program) : Nat → TypeId → Option Sh
  | 0, _ => none
  | k + 1, t => match P.underlying t with
    | some (.int kd) => some (.int kd)
    | some .bool => some .bool
    | some .string => some .str
    | some (.slice e) => match shapeOf P k e with
      | some s => if 0 < P.cellsOf e then some (.sl s (P.cellsOf e)) else none
      | none => none
    | some (.struct fs) => shapeFields P (shapeOf P k) fs.toList 0 (P.cellsOf t)
    | _ => none

def Good : Sh → List CV → Prop
  | .int k, l => ∃ n, l = [.int k n] ∧ (Lit.int k n).wf = true
  | .bool, l => ∃ b, l = [.bool b]
  | .str, l => ∃ s, l = [.str s] ∧ s.size ≤ maxLen
  | .sl e sz, l => l = [.nilsl] ∨ ∃ len cs, l = [.sl len cs] ∧ len ≤ maxLen ∧ cs.length = len * sz ∧ ∀ i, i < len → Good e ((cs.drop (i * sz)).take sz)
  | .cat a b, l => ∃ l1 l2, l = l1 ++ l2 ∧ Good a l1 ∧ Good b l2
  | .nil, l => l = []

section
variable {P : Program} {w : World}
abbrev NoM : Nat → Prop := fun _ => False
def Reps (w : World) (l : List CV) (cs : List Value) : Prop := l.length = cs.length ∧ ∀ i (hi : i < l.length) v, cs[i]? = some v → CRep w NoM l[i] v

theorem reps_one {c : CV} {v : Value} (h : CRep w NoM c v) : Reps w [c] [v] := ⟨rfl, fun i hi u hu => by
  have : i = 0 := by simp at hi; omega
  subst this
  simp at hu
  subst hu
  exact h⟩
theorem reps_append {l1 l2 : List CV} {c1 c2 : List Value} (h1 : Reps w l1 c1) (h2 : Reps w l2 c2) : Reps w (l1 ++ l2) (c1 ++ c2) := by
  refine ⟨by simp [h1.1, h2.1], fun i hi v hv => ?_⟩
  by_cases h : i < l1.length
  · rw [List.getElem_append_left h]
    rw [List.getElem?_append_left (by rw [← h1.1]; exact h)] at hv
    exact h1.2 i h v hv
  · rw [List.getElem_append_right (by omega)]
    rw [List.getElem?_append_right (by rw [← h1.1]; omega)] at hv
    simp at hi
    exact h2.2 _ (by omega) v (by rw [← hv, h1.1])

theorem fields_le {f : TypeId → Option Sh} : ∀ (fs : List Field) (off tot : Nat) (sh : Sh), shapeFields P f fs off tot = some sh → off ≤ tot
  | [], off, tot, sh, h => by
    simp only [shapeFields] at h
    split at h
    · omega
    · simp at h
  | fd :: fs, off, tot, sh, h => by
    simp only [shapeFields] at h
    split at h
    · split at h
      · rename_i a b h1 h2
        have := fields_le fs _ _ _ h2
        omega
      · simp at h
    · simp at h

theorem fields_rep {f : TypeId → Option Sh} {T : TypeId → List Value → Prop} (hf : ∀ t sh cs, f t = some sh → T t cs → ∃ l, Good sh l ∧ Reps w l cs) {cs : List Value} {tot : Nat} (htot : cs.length = tot) :
    ∀ (fs : List Field) (off : Nat) (sh : Sh), shapeFields P f fs off tot = some sh → (∀ fd ∈ fs, T fd.type ((cs.drop fd.offset).take (P.cellsOf fd.type))) → ∃ l, Good sh l ∧ Reps w l (cs.drop off)
  | [], off, sh, h, _ => by
    simp only [shapeFields] at h
    split at h
    · rename_i e
      simp at h
      subst h
      refine ⟨[], rfl, ?_⟩
      have : cs.drop off = [] := List.drop_eq_nil_of_le (by omega)
      rw [this]
      exact ⟨rfl, fun i hi => absurd hi (by simp)⟩
    · simp at h
  | fd :: fs, off, sh, h, ht => by
    simp only [shapeFields] at h
    split at h
    · rename_i e
      split at h
      · rename_i a b h1 h2
        simp at h
        subst h
        obtain ⟨l1, g1, r1⟩ := hf _ _ _ h1 (ht fd (by simp))
        obtain ⟨l2, g2, r2⟩ := fields_rep hf htot fs _ _ h2 fun x hx => ht x (by simp [hx])
        refine ⟨l1 ++ l2, ⟨l1, l2, rfl, g1, g2⟩, ?_⟩
        have e2 : cs.drop off = (cs.drop off).take (P.cellsOf fd.type) ++ cs.drop (off + P.cellsOf fd.type) := by
          rw [← List.drop_drop, List.take_append_drop]
        rw [e2]
        rw [e] at r1
        exact reps_append r1 r2
      · simp at h
    · simp at h

theorem cell_spot {a : Addr} {v : Value} (h : w.cell? a = some v) : a.spot = none := by
  unfold World.cell? at h
  split at h
  · split at h
    · simp at h
    · rename_i hs
      simpa using hs
  · simp at h

/-- A row of elements that were read one by one. -/
theorem row_rep {e : Sh} {a : Addr} {sz len cap : Nat} (hsz : 0 < sz) (hcap : len ≤ cap) (h0 : 0 < cap → a.spot = none)
    (hel : ∀ i, i < len → ∃ row l, w.cells? 0 (a.add (i * sz)) sz = some row ∧ Good e l ∧ Reps w l row) :
    ∃ c, (∃ cs, c = .sl len cs ∧ cs.length = len * sz ∧ ∀ i, i < len → Good e ((cs.drop (i * sz)).take sz)) ∧ CRep w NoM c (.slice (some a) len cap) := by
  by_cases hc0 : cap = 0
  · subst hc0
    have : len = 0 := by omega
    subst this
    exact ⟨.sl 0 [], ⟨[], rfl, by simp, fun i hi => by omega⟩, .sl0 a⟩
  have hsp := h0 (by omega)
  obtain ⟨b, o, sp⟩ := a
  simp only at hsp
  subst hsp
  have hex : ∀ i, ∃ p : List Value × List CV, i < len → w.cells? 0 ((⟨b, o, none⟩ : Addr).add (i * sz)) sz = some p.1 ∧ Good e p.2 ∧ Reps w p.2 p.1 := fun i => by
    by_cases hi : i < len
    · obtain ⟨row, l, h⟩ := hel i hi
      exact ⟨(row, l), fun _ => h⟩
    · exact ⟨([], []), fun h => absurd h hi⟩
  obtain ⟨g, hg⟩ := Classical.axiomOfChoice hex
  let cs : List CV := (List.range (len * sz)).map fun j => (g (j / sz)).2.getD (j % sz) .nilptr
  have hlen : cs.length = len * sz := by simp [cs]
  have hrow : ∀ i, i < len → (g i).1.length = sz ∧ (g i).2.length = sz := fun i hi => by
    obtain ⟨h1, _, h3⟩ := hg i hi
    obtain ⟨_, h4, _⟩ := World.cells?_some h1
    exact ⟨h4, by rw [h3.1, h4]⟩
  have hj : ∀ j, j < len * sz → j / sz < len ∧ j % sz < sz := fun j hj => ⟨Nat.div_lt_of_lt_mul (by rw [Nat.mul_comm]; exact hj), Nat.mod_lt _ hsz⟩
  have hget : ∀ j (h : j < cs.length), cs[j] = (g (j / sz)).2.getD (j % sz) .nilptr := fun j h => by simp [cs]
  have hcell : ∀ j, j < len * sz → w.cell? ⟨b, o + j, none⟩ = (g (j / sz)).1[j % sz]? := fun j h => by
    obtain ⟨q1, q2⟩ := hj j h
    obtain ⟨h1, _, _⟩ := hg _ q1
    obtain ⟨_, _, h5⟩ := World.cells?_some h1
    have := h5 (j % sz) q2
    have ea : (((⟨b, o, none⟩ : Addr).add (j / sz * sz)).add (j % sz)) = ⟨b, o + j, none⟩ := by
      have e1 : ∀ (o m : Nat), (⟨b, o, none⟩ : Addr).add m = ⟨b, o + m, none⟩ := fun o m => by
        unfold Addr.add
        split
        · rename_i h; subst h; rfl
        · rfl
      rw [e1, e1]
      congr 1
      have := Nat.div_add_mod j sz
      rw [Nat.mul_comm] at this
      omega
    rw [ea] at this
    exact this
  refine ⟨.sl len cs, ⟨cs, rfl, hlen, fun i hi => ?_⟩, .sl len cs b o cap (fun j => (g (j / sz)).1.getD (j % sz) undef) hcap (fun j h => ?_) (fun _ _ h => h) (fun j h => ?_)⟩
  · have e : (cs.drop (i * sz)).take sz = (g i).2 := by
      have hb : i * sz + sz ≤ len * sz := by
        have := Nat.mul_le_mul_right sz (show i + 1 ≤ len by omega)
        rw [Nat.add_mul, Nat.one_mul] at this
        exact this
      apply List.ext_getElem
      · simp [hlen, (hrow i hi).2]
        omega
      · intro k h1 h2
        have hk : k < sz := by rw [(hrow i hi).2] at h2; exact h2
        rw [List.getElem_take, List.getElem_drop, hget]
        have e1 : (i * sz + k) / sz = i := by
          rw [Nat.mul_comm, Nat.mul_add_div hsz, Nat.div_eq_of_lt hk, Nat.add_zero]
        have e2 : (i * sz + k) % sz = k := by
          rw [Nat.mul_comm, Nat.mul_add_mod, Nat.mod_eq_of_lt hk]
        rw [e1, e2, List.getD_eq_getElem?_getD, List.getElem?_eq_getElem h2]
        rfl
    rw [e]
    exact (hg i hi).2.1
  · rw [hlen] at h
    obtain ⟨q1, q2⟩ := hj j h
    rw [hcell j h, List.getElem?_eq_getElem (by rw [(hrow _ q1).1]; exact q2), List.getD_eq_getElem?_getD, List.getElem?_eq_getElem (by rw [(hrow _ q1).1]; exact q2)]
    rfl
  · have h' : j < len * sz := by rw [← hlen]; exact h
    obtain ⟨q1, q2⟩ := hj j h'
    obtain ⟨_, _, h3⟩ := hg _ q1
    rw [hget j h, List.getD_eq_getElem?_getD, List.getElem?_eq_getElem (by rw [(hrow _ q1).2]; exact q2), List.getD_eq_getElem?_getD, List.getElem?_eq_getElem (by rw [(hrow _ q1).1]; exact q2)]
    exact h3.2 _ (by rw [(hrow _ q1).2]; exact q2) _ (by rw [List.getElem?_eq_getElem (by rw [(hrow _ q1).1]; exact q2)]; rfl)

theorem mapM_each {α β : Type} {f : α → Option β} : ∀ {l : List α} {l' : List β}, l.mapM f = some l' → ∀ x ∈ l, ∃ y, f x = some y
  | [], _, _, x, hx => by simp at hx
  | a :: l, l', h, x, hx => by
    simp only [List.mapM_cons, Option.bind_eq_bind, Option.bind_eq_some_iff, Option.pure_def, Option.some.injEq] at h
    obtain ⟨c, hc, r, hr, rfl⟩ := h
    rcases List.mem_cons.1 hx with rfl | hx
    · exact ⟨c, hc⟩
    · exact mapM_each hr x hx

theorem trod_rep {H : Type} {enc : TypeId × Value → H} {held : Bool} : ∀ (fuel : Nat) (k : Nat) (t : TypeId) (sh : Sh) (cs : List Value) (r : DataW H × List MemPlace), shapeOf P k t = some sh →
    DataW.trod enc P w 0 (fun _ => true) held fuel t cs = some r → ∃ l, Good sh l ∧ Reps w l cs := by
  intro fuel
  induction fuel with
  | zero => intro k t sh cs r hs h; simp [DataW.trod] at h
  | succ fuel ih =>
    intro k t sh cs r hs h
    cases k with
    | zero => simp [shapeOf] at hs
    | succ k =>
      simp only [shapeOf] at hs
      unfold DataW.trod at h
      split at hs
      · rename_i kd hu
        simp at hs
        subst hs
        rw [hu] at h
        split at h <;> simp_all
        obtain ⟨⟨rfl, hw⟩, _⟩ := h
        exact ⟨[.int _ _], ⟨_, rfl, hw⟩, reps_one (.int _ _)⟩
      · rename_i hu
        simp at hs
        subst hs
        rw [hu] at h
        split at h <;> simp_all
        rename_i b
        exact ⟨[.bool b], ⟨b, rfl⟩, reps_one (.bool _)⟩
      · rename_i hu
        simp at hs
        subst hs
        rw [hu] at h
        split at h <;> simp_all
        rename_i s
        exact ⟨[.str s], ⟨s, rfl, h.1⟩, reps_one (.str _)⟩
      · rename_i e hu
        split at hs
        · rename_i s hse
          split at hs
          · rename_i hsz
            simp at hs
            subst hs
            rw [hu] at h
            split at h <;> rename_i heq <;> first
              | (simp at heq; done)
              | skip
            · exact ⟨[.nilsl], .inl rfl, reps_one .nilsl⟩
            · rename_i e' a len cap
              simp at heq
              subst heq
              simp only [if_true] at h
              split at h
              · rename_i hc
                obtain ⟨_, hlc, hcm⟩ := hc
                simp only [Option.bind_eq_some_iff, Option.map_eq_some_iff] at h
                obtain ⟨elems, he, rest, hr, _⟩ := h
                have one : ∀ i, i < cap → ∃ row r', w.cells? 0 (a.add (i * P.cellsOf e)) (P.cellsOf e) = some row ∧ DataW.trod enc P w 0 (fun _ => true) held fuel e row = some r' := by
                  intro i hi
                  by_cases hil : i < len
                  · obtain ⟨y, hy⟩ := mapM_each he i (by rw [List.mem_range]; exact hil)
                    simp only [Option.bind_eq_some_iff] at hy
                    obtain ⟨row, h1, h2⟩ := hy
                    exact ⟨row, y, h1, h2⟩
                  · obtain ⟨y, hy⟩ := mapM_each hr (i - len) (by rw [List.mem_range]; omega)
                    simp only [Option.bind_eq_some_iff] at hy
                    obtain ⟨row, h1, h2⟩ := hy
                    rw [show len + (i - len) = i by omega] at h1
                    exact ⟨row, y, h1, h2⟩
                have hsp : 0 < cap → a.spot = none := fun h0 => by
                  obtain ⟨row, r', h1, _⟩ := one 0 h0
                  obtain ⟨_, h3, h4⟩ := World.cells?_some h1
                  have := h4 0 hsz
                  rw [List.getElem?_eq_getElem (by omega)] at this
                  have e0 : (a.add (0 * P.cellsOf e)).add 0 = a := by simp [Addr.add]
                  rw [e0] at this
                  exact cell_spot this
                obtain ⟨c, ⟨cs, rfl, c2, c3⟩, c4⟩ := row_rep (w := w) (e := s) hsz hlc hsp fun i hi => by
                  obtain ⟨row, r', h1, h2⟩ := one i (by omega)
                  obtain ⟨l, g1, g2⟩ := ih _ _ _ _ _ hse h2
                  exact ⟨row, l, h1, g1, g2⟩
                exact ⟨[.sl len cs], .inr ⟨len, cs, rfl, by omega, c2, c3⟩, reps_one c4⟩
              · simp at h
            all_goals (simp at h)
          · simp at hs
        · simp at hs
      · rename_i fs hu
        rw [hu] at h
        split at h <;> rename_i heq <;> first
          | (simp at heq; done)
          | skip
        · rename_i fs'
          simp at heq
          subst heq
          split at h
          · rename_i hlen
            simp only [Option.map_eq_some_iff] at h
            obtain ⟨xs, hm, _⟩ := h
            have := fields_rep (P := P) (w := w) (f := shapeOf P k) (T := fun t cs => ∃ r : DataW H × List MemPlace, DataW.trod enc P w 0 (fun _ => true) held fuel t cs = some r) (fun t sh cs h1 ⟨r, h2⟩ => ih k t sh cs r h1 h2) hlen fs.toList 0 sh hs
              (fun fd hfd => mapM_each hm fd hfd)
            simpa using this
          · simp at h
        · rename_i hno _ _ _ _ _ _ _ _ _ _ _ _ _ _ _ _ _ _
          exact absurd rfl (hno fs)
      · simp at hs

/-- An argument of one cell. -/
theorem arg_one {H : Type} {enc : TypeId × Value → H} {held : Bool} {k : Nat} {t : TypeId} {sh : Sh} {v : Value} {d : DataW H} {ps : List MemPlace} {φ : Env} {S : Store} (hs : shapeOf P k t = some sh) (hv : v.cells = #[v])
    (h : DataW.Trod enc P w 0 (fun _ => true) held t v d ps) : ∃ c, Good sh [c] ∧ TRep w NoM φ S (.c c) v := by
  obtain ⟨fuel, hf⟩ := h
  rw [hv] at hf
  obtain ⟨l, g, r1, r2⟩ := trod_rep fuel k t sh _ _ hs hf
  obtain ⟨c, rfl⟩ := List.length_eq_one_iff.1 r1
  exact ⟨c, g, .c _ _ (r2 0 (by simp) v (by simp))⟩
/-- An argument that is a struct. -/
theorem arg_agg {H : Type} {enc : TypeId × Value → H} {held : Bool} {k : Nat} {t : TypeId} {sh : Sh} {cs : Array Value} {d : DataW H} {ps : List MemPlace} {φ : Env} {S : Store} (hs : shapeOf P k t = some sh)
    (h : DataW.Trod enc P w 0 (fun _ => true) held t (.agg cs) d ps) : ∃ l : List CV, Good sh l ∧ TRep w NoM φ S (.agg (l.map .c)) (.agg cs) := by
  obtain ⟨fuel, hf⟩ := h
  obtain ⟨l, g, r1, r2⟩ := trod_rep fuel k t sh _ _ hs hf
  have hl : l.length = cs.size := by simpa [Value.cells] using r1
  refine ⟨l, g, .agg _ _ (by simpa using hl) fun i hi v hv => ?_⟩
  simp only [List.getElem_map]
  exact .c _ _ (r2 i (by simpa using hi) v (by simpa [Value.cells] using hv))
end
end Go.Sim
