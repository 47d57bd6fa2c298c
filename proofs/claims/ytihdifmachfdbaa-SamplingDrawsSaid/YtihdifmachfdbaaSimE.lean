/- A part of the proof: values and stores in plain Lean, and the rules by which a walk is taken. -/
import Derived.Test.YtihdifmachfdbaaSimD
import Derived.Laws.Cells
set_option autoImplicit false
set_option linter.unusedSimpArgs false
set_option linter.unusedVariables false
namespace Go.Sim
open Go

section
variable {P : Program} {N : Nat} {F : Nat → Prop} {φ : Env} {T : Nat → TV} {S : Store} {a : Act} {w : World} {M : Nat → Prop}

theorem add_none (b o n : Nat) : (⟨b, o, none⟩ : Addr).add n = ⟨b, o + n, none⟩ := by unfold Addr.add; split <;> simp_all

/-- A row of closed cells, from an offset on. -/
theorem row_drop {cells : List CV} {b o : Nat} {f : Nat → Value} (k : Nat)
    (hf : ∀ j, j < cells.length → w.cell? ⟨b, o + j, none⟩ = some (f j))
    (hm : ∀ j, j < cells.length → ¬ M b)
    (hr : ∀ j (h : j < cells.length), CRep w M cells[j] (f j)) :
    (∀ j, j < (cells.drop k).length → w.cell? ⟨b, o + k + j, none⟩ = some (f (k + j))) ∧
    (∀ j, j < (cells.drop k).length → ¬ M b) ∧
    (∀ j (h : j < (cells.drop k).length), CRep w M (cells.drop k)[j] (f (k + j))) := by
  refine ⟨fun j hj => ?_, fun j hj => ?_, fun j hj => ?_⟩
  · simp at hj
    have := hf (k + j) (by omega)
    rwa [show o + (k + j) = o + k + j from by omega] at this
  · simp at hj
    exact hm (k + j) (by omega)
  · simp at hj
    rw [List.getElem_drop]
    exact hr (k + j) (by omega)

theorem row_take {cells : List CV} {b o : Nat} {f : Nat → Value} (k : Nat)
    (hf : ∀ j, j < cells.length → w.cell? ⟨b, o + j, none⟩ = some (f j))
    (hm : ∀ j, j < cells.length → ¬ M b)
    (hr : ∀ j (h : j < cells.length), CRep w M cells[j] (f j)) :
    (∀ j, j < (cells.take k).length → w.cell? ⟨b, o + j, none⟩ = some (f j)) ∧
    (∀ j, j < (cells.take k).length → ¬ M b) ∧
    (∀ j (h : j < (cells.take k).length), CRep w M (cells.take k)[j] (f j)) := by
  refine ⟨fun j hj => ?_, fun j hj => ?_, fun j hj => ?_⟩
  · simp at hj
    exact hf j (by omega)
  · simp at hj
    exact hm j (by omega)
  · simp at hj
    rw [List.getElem_take]
    exact hr j (by omega)

/-! ### addresses -/
def tvFieldAddr (P : Program) (t : TypeId) (x : TV) (f : Nat) : Option TV := match P.underlying t with
  | some (.struct fs) => match fs[f]? with
    | some fd => match szOf P fd.type with
      | some n => if n = 0 then none else match x with
        | .ptr id g off => some (.ptr id g (off + fd.offset))
        | .taddr cs => some (.taddr (cs.drop fd.offset))
        | _ => none
      | none => none
    | none => none
  | _ => none

theorem tvFieldAddr_ok {t : TypeId} {f : Nat} {vx v : TV} {x : Value} (h : tvFieldAddr P t vx f = some v) (hx : TRep w M φ S vx x) :
    ∃ z, (Instr.fieldAt t x f).run P w = .ok z w ∧ TRep w M φ S v z := by
  unfold tvFieldAddr at h
  split at h
  · rename_i fs hu
    split at h
    · rename_i fd hf
      split at h
      · rename_i n hn
        split at h
        · simp at h
        · rename_i hn0
          have key : ∀ ad : Addr, (Instr.fieldAt t (.pointer (some ad)) f).run P w = .ok (.pointer (some (ad.add fd.offset))) w := fun ad => by
            simp [Instr.fieldAt, Instr.sureAddr, fieldPlace, run_underlying hu, hf, run_szOf hn, hn0]
          split at h <;> simp at h <;> subst h
          · cases hx with
            | ptr id g off ad o h1 h2 h3 =>
              refine ⟨_, key ad, .ptr _ _ _ _ o h1 h2 fun e => ?_⟩
              rw [h3 e, add_none]
              simp [Nat.add_assoc]
          · cases hx with
            | taddr cells b o fn hf' hm hr =>
              refine ⟨_, key _, ?_⟩
              rw [add_none]
              obtain ⟨a1, a2, a3⟩ := row_drop fd.offset hf' hm hr
              exact .taddr _ _ _ _ a1 a2 a3
      · simp at h
    · simp at h
  · simp at h

/-- The object of a reference that is alive. -/
def Store.at (S : Store) (id g : Nat) : Option (TypeId × Nat × List TV) := match S.get id with
  | some (.cells g' et esz cs) => if g = g' then some (et, esz, cs) else none
  | _ => none

theorem at_some {id g : Nat} {et : TypeId} {esz : Nat} {cs : List TV} (h : S.at id g = some (et, esz, cs)) : S.get id = some (.cells g et esz cs) := by
  unfold Store.at at h
  split at h
  · split at h
    · rename_i h1 h2
      simp at h
      obtain ⟨rfl, rfl, rfl⟩ := h
      subst h2
      exact h1
    · simp at h
  · simp at h

def tvIndexAddr (P : Program) (S : Store) (t : TypeId) (x i : TV) : Option TV := match P.underlying t, i with
  | some (.slice e), .c (.int _ n) => match szOf P e with
    | some sz => match x with
      | .c (.sl len cs) => if 0 ≤ n ∧ n < len then some (.taddr (cs.drop (n.toNat * sz))) else none
      | .view id g off len => match S.at id g with
        | some _ => if 0 ≤ n ∧ n < len then some (.ptr id g (off + n.toNat * sz)) else none
        | none => none
      | _ => none
    | none => none
  | some (.array len e), .c (.int _ n) => match szOf P e with
    | some sz => match x with
      | .ptr id g off => if 0 ≤ n ∧ n < len then some (.ptr id g (off + n.toNat * sz)) else none
      | .taddr cs => if 0 ≤ n ∧ n < len then some (.taddr (cs.drop (n.toNat * sz))) else none
      | _ => none
    | none => none
  | _, _ => none

theorem tvIndexAddr_ok {t : TypeId} {vx vi v : TV} {x i : Value} (h : tvIndexAddr P S t vx vi = some v) (hx : TRep w M φ S vx x) (hi : TRep w M φ S vi i) :
    ∃ z, (Instr.indexAt t x i).run P w = .ok z w ∧ TRep w M φ S v z := by
  unfold tvIndexAddr at h
  split at h
  · rename_i e k n hu
    obtain rfl := rep_int hi
    split at h
    · rename_i sz hsz
      have key : ∀ (ad : Addr) (len cap : Nat), 0 ≤ n ∧ n < len → (Instr.indexAt t (.slice (some ad) len cap) (.int k n)).run P w = .ok (.pointer (some (ad.add (n.toNat * sz)))) w := fun ad len cap hn => by
        simp [Instr.indexAt, asIntOf, run_underlying hu, run_szOf hsz, hn.1, hn.2]
      split at h
      · rename_i len cs
        split at h
        · rename_i hn
          simp at h
          subst h
          cases hx with
          | c v x hx =>
            cases hx with
            | sl len cells b o cap f hcap hf hm hr =>
              refine ⟨_, key _ _ _ hn, ?_⟩
              rw [add_none]
              obtain ⟨a1, a2, a3⟩ := row_drop (n.toNat * sz) hf hm hr
              exact .taddr _ _ _ _ a1 a2 a3
            | sl0 ad => exact absurd hn (by omega)
            | slnil => exact absurd hn (by omega)
        · simp at h
      · rename_i id g off len
        split at h
        · rename_i q hq
          split at h
          · rename_i hn
            simp at h
            subst h
            obtain ⟨et, esz, cs⟩ := q
            have hg := at_some hq
            cases hx with
            | view id g off len ad cap o hcap he h1 h2 h3 =>
              rw [hg] at h1
              injection h1 with h1
              subst h1
              obtain ⟨b1, b2⟩ := h3 rfl
              rw [b1 (by omega)]
              refine ⟨_, key _ _ _ hn, ?_⟩
              rw [add_none]
              exact .ptr id g _ _ _ hg (Nat.le_refl _) fun _ => by simp [Nat.add_assoc]
          · simp at h
        · simp at h
      · simp at h
    · simp at h
  · rename_i len e k n hu
    obtain rfl := rep_int hi
    split at h
    · rename_i sz hsz
      have key : ∀ (ad : Addr), 0 ≤ n ∧ n < len → (Instr.indexAt t (.pointer (some ad)) (.int k n)).run P w = .ok (.pointer (some (ad.add (n.toNat * sz)))) w := fun ad hn => by
        simp [Instr.indexAt, Instr.sureAddr, asIntOf, run_underlying hu, run_szOf hsz, hn.1, hn.2]
      split at h
      · split at h
        · rename_i hn
          simp at h
          subst h
          cases hx with
          | ptr id g off ad o h1 h2 h3 =>
            refine ⟨_, key ad hn, .ptr _ _ _ _ o h1 h2 fun e => ?_⟩
            rw [h3 e, add_none]
            simp [Nat.add_assoc]
        · simp at h
      · split at h
        · rename_i hn
          simp at h
          subst h
          cases hx with
          | taddr cells b o f hf hm hr =>
            refine ⟨_, key _ hn, ?_⟩
            rw [add_none]
            obtain ⟨a1, a2, a3⟩ := row_drop (n.toNat * sz) hf hm hr
            exact .taddr _ _ _ _ a1 a2 a3
        · simp at h
      · simp at h
    · simp at h
  · simp at h

/-! ### load -/
def tvLoad (P : Program) (S : Store) (t : TypeId) (x : TV) : Option TV := match P.underlying t, szOf P t with
  | some _, some n => match x with
    | .ptr id g off => match S.at id g with
      | some (_, _, cs) => if aggT P t then (if off + n ≤ cs.length then some (.agg ((cs.drop off).take n)) else none) else cs[off]?
      | none => none
    | .taddr cs => if aggT P t then (if n ≤ cs.length then some (.agg ((cs.take n).map .c)) else none) else (cs[0]?).map .c
    | _ => none
  | _, _ => none

theorem range_get {f : Nat → Value} {n i : Nat} {v : Value} (h : ((List.range n).map f).toArray[i]? = some v) : i < n ∧ v = f i := by
  simp only [List.getElem?_toArray, List.getElem?_map, Option.map_eq_some_iff] at h
  obtain ⟨k, hk, rfl⟩ := h
  obtain ⟨hl, he⟩ := List.getElem?_eq_some_iff.1 hk
  simp at hl he
  exact ⟨hl, by rw [he]⟩

theorem getElem?_of_size {α : Type} {arr : Array α} {i : Nat} (h : i < arr.size) : ∃ v, arr[i]? = some v := ⟨arr[i], by simp [h]⟩

theorem run_loadVar_agg {t : TypeId} {d : TypeDesc} {n b o : Nat} {f : Nat → Value} (hu : P.underlying t = some d) (hn : szOf P t = some n) (hag : aggT P t = true)
    (h : ∀ j, j < n → w.cell? ⟨b, o + j, none⟩ = some (f j)) : (loadVar t ⟨b, o, none⟩).run P w = .ok (.agg ((List.range n).map f).toArray) w := by
  unfold loadVar
  simp only [Sem.run_bind, run_isAgg hu, Result.andThen_ok, hag, if_true, run_szOf hn]
  rw [run_loadCells w ⟨b, o, none⟩ n f (fun j hj => by rw [add_none]; exact h j hj)]
  rfl

theorem run_loadVar_one {t : TypeId} {d : TypeDesc} {b o : Nat} {v : Value} (hu : P.underlying t = some d) (hag : ¬ aggT P t = true)
    (h : w.cell? ⟨b, o, none⟩ = some v) : (loadVar t ⟨b, o, none⟩).run P w = .ok v w := by
  unfold loadVar
  simp only [Sem.run_bind, run_isAgg hu, Result.andThen_ok, hag, if_false, Bool.false_eq_true, run_load, h]

theorem obj_cell {et : TypeId} {esz g id : Nat} {cs : List TV} (hok : StoreOK F φ S w) (hg : S.get id = some (.cells g et esz cs)) :
    ∃ arr, w.heap[φ.blk id]? = some (.cells arr et (0, 0)) ∧ arr.size = φ.sz id ∧ φ.base id + cs.length ≤ arr.size ∧
      ∀ i (h : i < cs.length), ∃ v, arr[φ.base id + i]? = some v ∧ w.cell? ⟨φ.blk id, φ.base id + i, none⟩ = some v ∧ cs[i].one = true ∧ TRep w (Mut F φ S) φ S cs[i] v := by
  obtain ⟨arr, h1, h2, h3, h4⟩ := hok.obj id _ hg
  refine ⟨arr, h1, h2, h3, fun i hi => ?_⟩
  obtain ⟨v, hv⟩ := getElem?_of_size (arr := arr) (i := φ.base id + i) (by omega)
  obtain ⟨a1, a2⟩ := h4 i hi v hv
  exact ⟨v, hv, by simp [World.cell?, h1, hv], a1, a2⟩

theorem tvLoad_ok {t : TypeId} {vx v : TV} {x : Value} (hok : StoreOK F φ S w) (h : tvLoad P S t vx = some v) (hx : TRep w (Mut F φ S) φ S vx x) :
    ∃ z, (Instr.loadAt t x).run P w = .ok z w ∧ TRep w (Mut F φ S) φ S v z := by
  unfold tvLoad at h
  split at h
  · rename_i d n hu hn
    split at h
    · rename_i id g off
      split at h
      · rename_i et esz cs hat
        have hg := at_some hat
        obtain ⟨arr, a1, a2, a3, a4⟩ := obj_cell hok hg
        cases hx with
        | ptr id g off ad o h1 h2 h3 =>
          rw [hg] at h1
          injection h1 with h1
          subst h1
          have hadr := h3 rfl
          subst hadr
          split at h
          · rename_i hag
            split at h
            · rename_i hle
              simp at h
              subst h
              have hex : ∀ j, ∃ v, j < n → w.cell? ⟨φ.blk id, φ.base id + off + j, none⟩ = some v ∧ ∀ hj : off + j < cs.length, TRep w (Mut F φ S) φ S cs[off + j] v := fun j => by
                by_cases hj : j < n
                · obtain ⟨v, b1, b2, b3, b4⟩ := a4 (off + j) (by omega)
                  exact ⟨v, fun _ => ⟨by rw [← b2]; simp [Nat.add_assoc], fun _ => b4⟩⟩
                · exact ⟨undef, fun h => absurd h hj⟩
              obtain ⟨f, hf⟩ := Classical.axiomOfChoice hex
              refine ⟨_, by simp only [Instr.loadAt, Instr.sureAddr, Sem.run_bind, Sem.run_pure, Result.andThen_ok]; exact run_loadVar_agg hu hn hag fun j hj => (hf j hj).1, ?_⟩
              refine .agg _ _ (by simp; omega) fun i hi v hv => ?_
              simp at hi
              have e1 : ((cs.drop off).take n)[i]'(by simpa using hi) = cs[off + i]'(by omega) := by simp
              rw [e1]
              rw [(range_get hv).2]
              exact (hf i (by omega)).2 _
            · simp at h
          · rename_i hag
            obtain ⟨hi, rfl⟩ := List.getElem?_eq_some_iff.1 h
            obtain ⟨v, b1, b2, b3, b4⟩ := a4 off hi
            refine ⟨v, ?_, b4⟩
            simp only [Instr.loadAt, Instr.sureAddr, Sem.run_bind, Sem.run_pure, Result.andThen_ok]
            exact run_loadVar_one hu hag b2
      · simp at h
    · rename_i cs
      cases hx with
      | taddr cells b o f hf hm hr =>
        split at h
        · rename_i hag
          split at h
          · rename_i hle
            simp at h
            subst h
            refine ⟨_, by simp only [Instr.loadAt, Instr.sureAddr, Sem.run_bind, Sem.run_pure, Result.andThen_ok]; exact run_loadVar_agg hu hn hag fun j hj => hf j (by omega), ?_⟩
            refine .agg _ _ (by simp; omega) fun i hi v hv => ?_
            simp at hi
            rw [(range_get hv).2]
            simp only [List.getElem_map, List.getElem_take]
            exact .c _ _ (hr i (by omega))
          · simp at h
        · rename_i hag
          simp at h
          obtain ⟨c, hc, rfl⟩ := h
          obtain ⟨hi, rfl⟩ := List.getElem?_eq_some_iff.1 hc
          refine ⟨f 0, ?_, .c _ _ (hr 0 hi)⟩
          simp only [Instr.loadAt, Instr.sureAddr, Sem.run_bind, Sem.run_pure, Result.andThen_ok]
          exact run_loadVar_one hu hag (by simpa using hf 0 hi)
    · simp at h
  · simp at h
end
end Go.Sim
