/- A part of the proof: values and stores in plain Lean, and the rules by which a walk is taken. -/
import Derived.Test.YtihdifmachfdbaaSimAD
set_option autoImplicit false
set_option linter.unusedSimpArgs false
set_option linter.unusedVariables false
namespace Go.Sim
open Go

/-! ### lists, by index -/
section
variable {α : Type}
theorem getD_at (d : α) {l : List α} {i : Nat} (h : i < l.length) : l.getD i d = l[i] := by simp [List.getD_eq_getElem?_getD, h]
theorem any_take (p : α → Bool) (d : α) {l : List α} {i : Nat} (h : i < l.length) : (l.take (i + 1)).any p = ((l.take i).any p || p (l.getD i d)) := by
  rw [List.take_succ_eq_append_getElem h, List.any_append]
  simp [List.getD_eq_getElem?_getD, h]
theorem all_take (p : α → Bool) (d : α) {l : List α} {i : Nat} (h : i < l.length) : (l.take (i + 1)).all p = ((l.take i).all p && p (l.getD i d)) := by
  rw [List.take_succ_eq_append_getElem h, List.all_append]
  simp [List.getD_eq_getElem?_getD, h]
theorem all_not (p : α → Bool) (d : α) {l : List α} {i : Nat} (h : i < l.length) (hp : p (l.getD i d) = false) : l.all p = false := by
  rw [List.all_eq_false]
  refine ⟨l[i], List.getElem_mem h, ?_⟩
  rw [getD_at d h] at hp
  simp [hp]
theorem any_yes (p : α → Bool) (d : α) {l : List α} {i : Nat} (h : i < l.length) (hp : p (l.getD i d) = true) : l.any p = true := by
  rw [List.any_eq_true]
  refine ⟨l[i], List.getElem_mem h, ?_⟩
  rwa [getD_at d h] at hp
theorem all_get {p : α → Bool} {l : List α} (d : α) (h : l.all p = true) {i : Nat} (hi : i < l.length) : p (l.getD i d) = true := by
  rw [List.all_eq_true] at h
  rw [getD_at d hi]
  exact h _ (List.getElem_mem hi)
theorem all_of {p : α → Bool} {l : List α} (d : α) (h : ∀ i, i < l.length → p (l.getD i d) = true) : l.all p = true := by
  rw [List.all_eq_true]
  intro x hx
  obtain ⟨i, hi, rfl⟩ := List.getElem_of_mem hx
  have := h i hi
  rwa [getD_at d hi] at this
theorem any_get {p : α → Bool} {l : List α} (d : α) (h : l.any p = false) {i : Nat} (hi : i < l.length) : p (l.getD i d) = false := by
  rw [List.any_eq_false] at h
  rw [getD_at d hi]
  simpa using h _ (List.getElem_mem hi)
theorem ext_getD (d : α) {l l' : List α} (hl : l.length = l'.length) (h : ∀ i, i < l.length → l.getD i d = l'.getD i d) : l = l' := by
  apply List.ext_getElem hl
  intro i h1 h2
  have := h i h1
  rwa [getD_at d h1, getD_at d h2] at this
theorem take_succ_getD (d : α) {l : List α} {i : Nat} (h : i < l.length) : l.take (i + 1) = l.take i ++ [l.getD i d] := by
  rw [List.take_succ_eq_append_getElem h, getD_at d h]
theorem getD_set (d : α) {l : List α} {i j : Nat} {v : α} (h : i < l.length) : (l.set i v).getD j d = if j = i then v else l.getD j d := by
  rw [List.getD_eq_getElem?_getD, List.getElem?_set]
  by_cases e : i = j
  · subst e; simp [h]
  · rw [if_neg e, if_neg (Ne.symm e), List.getD_eq_getElem?_getD]
theorem getD_map_range {n : Nat} (f : Nat → α) (d : α) {i : Nat} (h : i < n) : ((List.range n).map f).getD i d = f i := by
  simp [List.getD_eq_getElem?_getD, h]
theorem map_range_set {n : Nat} (f : Nat → α) (i : Nat) (v : α) : ((List.range n).map f).set i v = (List.range n).map fun j => if j = i then v else f j := by
  apply List.ext_getElem
  · simp
  · intro j h1 h2
    simp only [List.getElem_set, List.getElem_map, List.getElem_range]
    by_cases e : i = j
    · subst e; simp
    · rw [if_neg e, if_neg (Ne.symm e)]
theorem map_range_fill {n s : Nat} (A B : Nat → α) (v : α) (hv : v = A s) : ((List.range n).map fun t => if t < s then A t else B t).set s v = (List.range n).map fun t => if t < s + 1 then A t else B t := by
  rw [map_range_set]
  apply List.map_congr_left
  intro t _
  by_cases e : t = s
  · subst e; simp [hv]
  · rw [if_neg e]
    by_cases e2 : t < s
    · rw [if_pos e2, if_pos (by omega)]
    · rw [if_neg e2, if_neg (by omega)]
theorem map_range_congr {n : Nat} {f g : Nat → α} (h : ∀ i, i < n → f i = g i) : (List.range n).map f = (List.range n).map g := by
  apply List.map_congr_left
  intro i hi
  exact h i (by simpa using hi)
theorem replicate_map_range (n : Nat) (v : α) : List.replicate n v = (List.range n).map fun _ => v := by
  apply List.ext_getElem <;> simp
theorem map_range_getD (d : α) (l : List α) : (List.range l.length).map (fun i => l.getD i d) = l := by
  apply List.ext_getElem
  · simp
  · intro i h1 h2
    simp [List.getD_eq_getElem?_getD, h2]

/-- The first place where a property holds, or -1. -/
def idxOf (p : α → Bool) (l : List α) : Int := match l.findIdx? p with
  | some i => (i : Int)
  | none => -1
theorem idxOf_at {p : α → Bool} {l : List α} (d : α) {i : Nat} (hi : i < l.length) (hb : ∀ k, k < i → p (l.getD k d) = false) (hp : p (l.getD i d) = true) : idxOf p l = (i : Int) := by
  have : l.findIdx? p = some i := by
    rw [List.findIdx?_eq_some_iff_getElem]
    refine ⟨hi, by rwa [getD_at d hi] at hp, fun j hj => ?_⟩
    have := hb j hj
    rw [getD_at d (by omega)] at this
    simp [this]
  simp only [idxOf, this]
theorem idxOf_none {p : α → Bool} {l : List α} (d : α) (hb : ∀ k, k < l.length → p (l.getD k d) = false) : idxOf p l = -1 := by
  have : l.findIdx? p = none := by
    rw [List.findIdx?_eq_none_iff]
    intro x hx
    obtain ⟨i, hi, rfl⟩ := List.getElem_of_mem hx
    have := hb i hi
    rwa [getD_at d hi] at this
  simp only [idxOf, this]
theorem idxOf_any (p : α → Bool) (l : List α) : decide (idxOf p l ≥ 0) = l.any p := by
  unfold idxOf
  cases h : l.findIdx? p with
  | none =>
    rw [List.findIdx?_eq_none_iff] at h
    have : l.any p = false := by rw [List.any_eq_false]; intro x hx; simp [h x hx]
    simp [this]
  | some i =>
    obtain ⟨h1, h2, _⟩ := List.findIdx?_eq_some_iff_getElem.1 h
    have : l.any p = true := by rw [List.any_eq_true]; exact ⟨_, List.getElem_mem h1, h2⟩
    simp [this]
end
end Go.Sim
