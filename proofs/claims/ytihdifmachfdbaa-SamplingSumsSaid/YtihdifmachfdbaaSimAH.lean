/- A part of the proof: values and stores in plain Lean, and the rules by which a walk is taken. -/
import Derived.Test.YtihdifmachfdbaaSimS
set_option autoImplicit false
set_option linter.unusedSimpArgs false
set_option linter.unusedVariables false
namespace Go.Sim
open Go

/-! ### a law's arguments, typed -/
mutual
def normC : CV → CV
  | .nilsl => .sl 0 []
  | .sl n l => .sl n (normL l)
  | .ifc t v => .ifc t v
  | .int k n => .int k n
  | .bool b => .bool b
  | .str s => .str s
  | .nilptr => .nilptr
  | .nilmap => .nilmap
  | .nilfn => .nilfn
  | .nilif => .nilif
def normL : List CV → List CV
  | [] => []
  | v :: l => normC v :: normL l
end
theorem normL_map (l : List CV) : normL l = l.map normC := by
  induction l with
  | nil => rfl
  | cons v l ih => simp [normL, ih]

section
variable {w : World} {M : Nat → Prop} {φ : Env} {S : Store}
theorem crep_norm {c : CV} {x : Value} (h : CRep w M c x) : CRep w M (normC c) x := by
  induction h with
  | nilsl => exact .slnil
  | sl len cells b o cap f hcap hf hm hr ih =>
    simp only [normC, normL_map]
    refine .sl len _ b o cap f hcap (fun j hj => hf j (by simpa using hj)) (fun j hj => hm j (by simpa using hj)) (fun j hj => ?_)
    simp only [List.getElem_map]
    exact ih j (by simpa using hj)
  | sl0 ad => exact .sl0 ad
  | slnil => exact .slnil
  | ifc t v x h _ => exact .ifc t v x h
  | int k n => exact .int k n
  | bool b => exact .bool b
  | str s => exact .str s
  | nilptr => exact .nilptr
  | nilmap => exact .nilmap
  | nilfn => exact .nilfn
  | nilif => exact .nilif

def isNilSh : Sh → Bool
  | .nil => true
  | _ => false
theorem isNilSh_ok {b : Sh} (h : isNilSh b = true) : b = .nil := by cases b <;> simp [isNilSh] at h; rfl
def shTy : Sh → Option Ty
  | .int k => some (.i k)
  | .bool => some .b
  | .str => some .s
  | .sl e sz => match shTy e with
    | some t => match Nat.beq t.size sz with
      | true => some (.l t)
      | false => none
    | none => none
  | .cat a b => match shTy a with
    | some x => match isNilSh b with
      | true => some x
      | false => match shTy b with
        | some y => some (.p x y)
        | none => none
    | none => none
  | .nil => none

/-- What is known of a value of a type. -/
def WfD : (t : Ty) → t.den → Prop
  | .i k, n => (Lit.int k n).wf = true
  | .b, _ => True
  | .s, s => s.size ≤ maxLen
  | .l t, xs => xs.length ≤ maxLen ∧ ∀ x ∈ xs, WfD t x
  | .p x y, v => WfD x v.1 ∧ WfD y v.2

theorem rows_ty {t : Ty} : ∀ (n : Nat) (cs : List CV), cs.length = n * t.size → (∀ i, i < n → ∃ x : t.den, ((cs.drop (i * t.size)).take t.size).map normC = enc t x ∧ WfD t x) → ∃ xs : List t.den, xs.length = n ∧ cs.map normC = encs t xs ∧ ∀ x ∈ xs, WfD t x
  | 0, cs, hl, _ => by
    have : cs = [] := List.eq_nil_of_length_eq_zero (by omega)
    subst this
    exact ⟨[], rfl, rfl, fun x hx => by simp at hx⟩
  | n + 1, cs, hl, h => by
    rw [Nat.add_mul, Nat.one_mul] at hl
    obtain ⟨x, hx, hw⟩ := h 0 (by omega)
    simp only [Nat.zero_mul, List.drop_zero] at hx
    obtain ⟨xs, e1, e2, e3⟩ := rows_ty (t := t) n (cs.drop t.size) (by simp; omega) fun i hi => by
      obtain ⟨y, hy, hwy⟩ := h (i + 1) (by omega)
      refine ⟨y, ?_, hwy⟩
      rw [← hy, List.drop_drop, Nat.add_mul, Nat.one_mul, Nat.add_comm t.size]
    refine ⟨x :: xs, by simp [e1], ?_, fun y hy => ?_⟩
    · have e4 : encs t (x :: xs) = enc t x ++ encs t xs := by simp only [encs, List.flatMap_cons]
      rw [e4, ← hx, ← e2, ← List.map_append, List.take_append_drop]
    · rcases List.mem_cons.1 hy with rfl | hy
      · exact hw
      · exact e3 y hy

theorem good_ty : ∀ (sh : Sh) (t : Ty) (l : List CV), shTy sh = some t → Good sh l → ∃ x : t.den, l.map normC = enc t x ∧ WfD t x
  | .int k, t, l, h, hg => by
    simp only [shTy] at h
    injection h with h
    subst h
    obtain ⟨n, rfl, hw⟩ := hg
    exact ⟨n, rfl, hw⟩
  | .bool, t, l, h, hg => by
    simp only [shTy] at h
    injection h with h
    subst h
    obtain ⟨b, rfl⟩ := hg
    exact ⟨b, rfl, trivial⟩
  | .str, t, l, h, hg => by
    simp only [shTy] at h
    injection h with h
    subst h
    obtain ⟨s, rfl, hw⟩ := hg
    exact ⟨s, rfl, hw⟩
  | .nil, t, l, h, hg => by simp [shTy] at h
  | .sl e sz, t, l, h, hg => by
    simp only [shTy] at h
    split at h
    · rename_i te hte
      split at h
      · rename_i hb
        injection h with h
        subst h
        have hb := Nat.eq_of_beq_eq_true hb
        rcases hg with rfl | ⟨len, cs, rfl, h1, h2, h3⟩
        · exact ⟨([] : List te.den), rfl, by simp, fun x hx => by simp at hx⟩
        · subst hb
          obtain ⟨xs, e1, e2, e3⟩ := rows_ty (t := te) len cs h2 fun i hi => good_ty e te _ hte (h3 i hi)
          refine ⟨xs, ?_, by rw [e1]; exact h1, e3⟩
          simp only [List.map_cons, List.map_nil, normC, normL_map, enc, e1]
          rw [e2]
          rfl
      · cases h
    · cases h
  | .cat a b, t, l, h, hg => by
    obtain ⟨l1, l2, rfl, g1, g2⟩ := hg
    simp only [shTy] at h
    split at h
    · rename_i x hx
      obtain ⟨u, hu, wu⟩ := good_ty a x l1 hx g1
      split at h
      · rename_i hb
        injection h with h
        subst h
        rw [isNilSh_ok hb] at g2
        simp only [Good] at g2
        subst g2
        exact ⟨u, by simpa using hu, wu⟩
      · split at h
        · rename_i y hy
          injection h with h
          subst h
          obtain ⟨v, hv, wv⟩ := good_ty b y l2 hy g2
          exact ⟨(u, v), by simp [enc, hu, hv], wu, wv⟩
        · cases h
    · cases h

theorem typed_one {sh : Sh} {t : Ty} {c : CV} {v : Value} (hs : shTy sh = some (.l t)) (hg : Good sh [c]) (ht : TRep w M φ S (.c c) v) : ∃ xs : List t.den, WfD (.l t) xs ∧ TRep w M φ S (SV.row t xs).out v := by
  obtain ⟨x, hx, hw⟩ := good_ty sh (.l t) [c] hs hg
  refine ⟨x, hw, ?_⟩
  simp only [List.map_cons, List.map_nil, enc] at hx
  injection hx with hx _
  cases ht with
  | c _ _ h =>
    have := crep_norm h
    rw [hx] at this
    exact .c _ _ this
theorem typed_str {sh : Sh} {c : CV} {v : Value} (hs : shTy sh = some .s) (hg : Good sh [c]) (ht : TRep w M φ S (.c c) v) : ∃ s : ByteArray, WfD .s s ∧ TRep w M φ S (SV.str s).out v := by
  obtain ⟨x, hx, hw⟩ := good_ty sh .s [c] hs hg
  refine ⟨x, hw, ?_⟩
  simp only [List.map_cons, List.map_nil, enc] at hx
  injection hx with hx _
  cases ht with
  | c _ _ h =>
    have := crep_norm h
    rw [hx] at this
    exact .c _ _ this
theorem typed_agg {sh : Sh} {t : Ty} {l : List CV} {v : Value} (hs : shTy sh = some t) (hg : Good sh l) (ht : TRep w M φ S (.agg (l.map .c)) v) : ∃ x : t.den, WfD t x ∧ TRep w M φ S (SV.agg (mkC t x)).out v := by
  obtain ⟨x, hx, hw⟩ := good_ty sh t l hs hg
  refine ⟨x, hw, ?_⟩
  simp only [SV.out, SV.cells, List.headD_cons, mkC_cells, ← hx]
  cases ht with
  | agg _ cs hl hr =>
    refine .agg _ _ (by simpa using hl) fun i hi y hy => ?_
    have := hr i (by simpa using hi) y hy
    simp only [List.getElem_map] at this ⊢
    cases this with
    | c _ _ h => exact .c _ _ (crep_norm h)
end
end Go.Sim
