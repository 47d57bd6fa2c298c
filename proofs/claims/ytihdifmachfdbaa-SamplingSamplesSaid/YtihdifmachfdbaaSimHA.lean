/- A part of the proof: values and stores in plain Lean, and the rules by which a walk is taken. -/
import Derived.Test.YtihdifmachfdbaaSimJ
set_option autoImplicit false
set_option linter.unusedSimpArgs false
set_option linter.unusedVariables false
namespace Go.Sim
open Go

section
variable {P : Program} {F : Nat → Prop} {φ : Env} {S : Store} {w : World}

/-! ### copy, where the place has room for the whole source -/
def tvCopy (P : Program) (S : Store) (t : TypeId) (s x : TV) : Option (TV × Store) := match P.underlying t with
  | some (.slice e) => match szOf P e with
    | some sz => match srcOf P S sz x with
      | some (n, l) => match s with
        | .c .nilsl => if n = 0 then some (.c (.int .i64 (n : Nat)), S) else none
        | .view id g off len => match S.at id g with
          | some (et, esz, cs) => if n = 0 then some (.c (.int .i64 (n : Nat)), S) else
            if n ≤ len ∧ off + n * sz ≤ cs.length then some (.c (.int .i64 (n : Nat)), S.set id (.cells g et esz (splice cs off l))) else none
          | none => none
        | _ => none
      | none => none
    | none => none
  | _ => none

theorem run_copy {t xt ty e : TypeId} {sz : Nat} (ht : P.underlying t = some (.slice e)) (hi : szOf P e = some sz) {base : Option Addr} {dLen dCap n : Nat} {x : Value} {nv : Array Value} {w1 : World}
    (hn : (Builtin.lenOf x).run P w = .ok n w) (hle : n ≤ dLen) (hf : (Builtin.firstCells sz n x).run P w = .ok nv w) (hst : ∀ ad, base = some ad → (storeCells ad nv.toList).run P w = .ok () w1) (hb : base = none → w1 = w) :
    (Builtin.copy_ #[t, xt] ty #[.slice base dLen dCap, x]).run P w = .ok (goInt n) w1 := by
  unfold Builtin.copy_
  have hm : Nat.min n dLen = n := Nat.min_eq_left hle
  cases base with
  | none =>
    obtain rfl := hb rfl
    simp [run_underlying ht, run_szOf hi, hn, hm, hf]
  | some ad =>
    have := hst ad rfl
    simp [run_underlying ht, run_szOf hi, hn, hm, hf, this]

theorem tvCopy_ok {t xt ty : TypeId} {vs vx v : TV} {s x : Value} {S' : Store} (hok : StoreOK F φ S w) (h : tvCopy P S t vs vx = some (v, S')) (hs : TRep w (Mut F φ S) φ S vs s) (hx : TRep w (Mut F φ S) φ S vx x) :
    ∃ z w', (Builtin.copy_ #[t, xt] ty #[s, x]).run P w = .ok z w' ∧ TRep w' (Mut F φ S') φ S' v z ∧ StoreOK F φ S' w' ∧ Ext φ S w φ S' w' := by
  unfold tvCopy at h
  split at h
  · rename_i e hu
    split at h
    · rename_i sz hsz
      split at h
      · rename_i n l hsrc
        obtain ⟨hn, nv, hf, hl, hlv, hrep, hone⟩ := src_ok (P := P) hok hsrc hx
        have zero : ∀ (base : Option Addr) (len cap : Nat), s = .slice base len cap → n = 0 → (base ≠ none → ∃ b f, base = some ⟨b, f, none⟩) → (Builtin.copy_ #[t, xt] ty #[s, x]).run P w = .ok (goInt n) w := by
          intro base len cap hs0 h0 _
          subst hs0
          have hnil : nv.toList = [] := by
            have : nv.size = 0 := by rw [← hlv, hl, h0]; simp
            simpa using this
          refine run_copy hu hsz hn (by omega) (hf w rfl) (fun ad _ => by rw [hnil]; rfl) fun _ => rfl
        split at h
        · split at h
          · rename_i h0
            simp at h
            obtain ⟨rfl, rfl⟩ := h
            obtain rfl := rep_nilsl hs
            exact ⟨_, w, zero none 0 0 rfl h0 (fun h => absurd rfl h), .c _ _ (.int _ _), hok, Ext.refl _ _ _⟩
          · simp at h
        · rename_i id g off len
          split at h
          · rename_i et esz cs hat
            cases hs with
            | view _ _ _ _ ad cap o hcap he g1 g2 g3 =>
              split at h
              · rename_i h0
                simp at h
                obtain ⟨rfl, rfl⟩ := h
                exact ⟨_, w, zero ad len cap rfl h0 (fun _ => he), .c _ _ (.int _ _), hok, Ext.refl _ _ _⟩
              · rename_i h0
                split at h
                · rename_i hc
                  obtain ⟨hc1, hc2⟩ := hc
                  simp at h
                  obtain ⟨rfl, rfl⟩ := h
                  have hg := at_some hat
                  rw [hg] at g1
                  injection g1 with g1
                  subst g1
                  obtain ⟨q1, q2⟩ := g3 rfl
                  have hadr := q1 (by omega)
                  subst hadr
                  obtain ⟨arr, a1, a2, a3, a4⟩ := obj_cell hok hg
                  have hlen : nv.toList.length = l.length := by simp [hlv]
                  have hrun := run_storeCells_at P (φ.blk id) (φ.base id + off) et nv.toList 0 arr w a1 (by rw [hlen]; omega) hone
                  simp only [Nat.add_zero] at hrun
                  have hset := set_cells (arr' := (arr.toList.take (φ.base id + off) ++ nv.toList ++ arr.toList.drop (φ.base id + off + nv.toList.length)).toArray)
                    hok hg a1 (by simp; omega) a2 (by rw [splice_len (by omega)]; exact a3)
                    (splice_rep (by omega) a3 (by simp [hlv]) (fun i hi => by
                      obtain ⟨u, g1, g2, g3, g4⟩ := a4 i hi
                      exact ⟨u, g1, g3, g4⟩) (fun i hi y hy => hrep i hi y (by simpa using hy)))
                  exact ⟨_, _, run_copy hu hsz hn hc1 (hf w rfl) (fun ad had => by injection had with had; subst had; exact hrun) (fun h => by cases h), .c _ _ (.int _ _), hset.1, hset.2⟩
                · simp at h
          · simp at h
        · simp at h
      · simp at h
    · simp at h
  · simp at h
end
end Go.Sim
