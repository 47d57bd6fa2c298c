/- A part of the proof: values and stores in plain Lean, and the rules by which a walk is taken. -/
import Derived.Test.YtihdifmachfdbaaSimHA
import Derived.Laws.BytesArg
set_option autoImplicit false
set_option linter.unusedSimpArgs false
set_option linter.unusedVariables false
namespace Go.Sim
open Go

section
variable {P : Program} {F : Nat → Prop} {φ : Env} {S : Store} {w : World}

/-! ### bytes made into a string -/
def numsOf : List TV → Option (List Int)
  | [] => some []
  | .c (.int .u8 n) :: l => match numsOf l with
    | some r => some (n :: r)
    | none => none
  | _ => none
theorem numsOf_ok : ∀ {l : List TV} {xs : List Int}, numsOf l = some xs → l = xs.map fun n => .c (.int .u8 n)
  | [], xs, h => by simp [numsOf] at h; subst h; rfl
  | v :: l, xs, h => by
    unfold numsOf at h
    split at h
    · rename_i e; cases e
    · rename_i n l' e
      injection e with e1 e2
      subst e1 e2
      split at h
      · rename_i r hr
        injection h with h
        subst h
        rw [numsOf_ok hr]
        rfl
      · cases h
    · cases h
def notStr : TV → Bool
  | .c (.str _) => false
  | _ => true
def tvStr (P : Program) (S : Store) (s d : TypeId) (x : TV) : Option TV := match P.underlying s, P.underlying d with
  | some (.slice e), some .string => match P.underlying e with
    | some (.int .u8) => match notStr x, srcOf P S 1 x with
      | true, some (_, l) => match numsOf l with
        | some xs => some (.c (.str (strOfNums xs)))
        | none => none
      | _, _ => none
    | _ => none
  | _, _ => none

theorem tvStr_ok {s d : TypeId} {vx v : TV} {x : Value} (hok : StoreOK F φ S w) (h : tvStr P S s d vx = some v) (hx : TRep w (Mut F φ S) φ S vx x) :
    ∃ z, (convert s d x).run P w = .ok z w ∧ TRep w (Mut F φ S) φ S v z := by
  unfold tvStr at h
  split at h
  · rename_i e hu hd
    split at h
    · rename_i he
      split at h
      · rename_i n l hns hsrc
        split at h
        · rename_i xs hxs
          injection h with h
          subst h
          obtain ⟨hn, nv, hf, hl, hlv, hrep, hone⟩ := src_ok (P := P) hok hsrc hx
          have hnv : nv = (xs.map (Value.int .u8)).toArray := by
            have hll := numsOf_ok hxs
            apply Array.ext'
            apply List.ext_getElem
            · simp [← hlv, hll]
            · intro i h1 h2
              have hi : i < l.length := by rw [hlv]; simpa using h1
              have hi2 : i < xs.length := by rw [hll] at hi; simpa using hi
              have := (hrep i hi nv[i] (by simp)).2
              have e1 : l[i] = .c (.int .u8 xs[i]) := by simp [hll]
              rw [e1] at this
              simpa using rep_int this
          have hshape : ∃ base cap, x = .slice base n cap := by
            unfold srcOf at hsrc
            split at hsrc
            · simp at hsrc
              obtain ⟨rfl, _⟩ := hsrc
              exact ⟨none, 0, rep_nilsl hx⟩
            · split at hsrc
              · simp at hsrc
                obtain ⟨rfl, _⟩ := hsrc
                cases hx with
                | c v x hx => cases hx with
                  | sl _ _ b o cap f _ _ _ _ => exact ⟨_, _, rfl⟩
                  | sl0 ad => exact ⟨_, _, rfl⟩
                  | slnil => exact ⟨_, _, rfl⟩
              · simp at hsrc
            · split at hsrc
              · split at hsrc
                · simp at hsrc
                  obtain ⟨rfl, _⟩ := hsrc
                  cases hx with
                  | view _ _ _ _ ad cap o _ _ _ _ _ => exact ⟨_, _, rfl⟩
                · simp at hsrc
              · simp at hsrc
            · simp [notStr] at hns
            · simp at hsrc
          obtain ⟨base, cap, rfl⟩ := hshape
          refine ⟨.string (strOfNums xs), ?_, .c _ _ (.str _)⟩
          cases base with
          | none =>
            have h0 := hf w rfl
            simp only [Builtin.firstCells] at h0
            have : nv = #[] := by
              have := h0
              simp [Sem.run_pure] at this
              first | exact this.symm | exact this
            rw [hnv] at this
            have hx0 : xs = [] := by simpa using this
            rw [run_convert_bytes_nil w s e hu he n cap d hd, hx0]
            rfl
          | some a =>
            have h0 := hf w rfl
            simp only [Builtin.firstCells, Nat.mul_one] at h0
            rw [run_convert_bytes_string w s d e _ n cap hu he hd, run_bytesToString w a n cap xs (by rw [h0, hnv]), foldl_push_bytes]
            simp [strOfNums, ByteArray.empty, ByteArray.emptyWithCapacity]
            rfl
        · cases h
      · cases h
    · cases h
  · cases h
end
end Go.Sim
