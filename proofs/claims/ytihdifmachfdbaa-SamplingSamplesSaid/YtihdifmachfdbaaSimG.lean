/- A part of the proof: values and stores in plain Lean, and the rules by which a walk is taken. -/
import Derived.Test.YtihdifmachfdbaaSimF
set_option autoImplicit false
set_option linter.unusedSimpArgs false
set_option linter.unusedVariables false
namespace Go.Sim
open Go

section
variable {P : Program} {N : Nat} {F : Nat → Prop} {φ : Env} {T : Nat → TV} {S : Store} {a : Act} {w : World} {M : Nat → Prop}

/-! ### zero rows, make -/
def bytesOf (P : Program) (t : TypeId) : Option Nat := (P.info? t).map (·.bytes)

def zrow (zs : List CV) (n : Nat) : List TV := (List.range n).map fun i => .c (zs.getD (i % zs.length) .nilptr)

theorem zrow_one (z : CV) (n : Nat) : zrow [z] n = List.replicate n (.c z) := by
  apply List.ext_getElem
  · simp [zrow]
  · intro i h1 h2
    simp [zrow, Nat.mod_one]

theorem zrow_len (zs : List CV) (n : Nat) : (zrow zs n).length = n := by simp [zrow]

theorem zrow_rep {zs : List CV} {z : Value} (hl : zs.length = z.cells.size) (hc : ∀ i (hi : i < zs.length) v, z.cells[i]? = some v → CRep w M zs[i] v) (h0 : 0 < zs.length) {n m : Nat} (hnm : n ≤ m) :
    ∀ i (hi : i < (zrow zs n).length) v, ((Array.range m).map (z.cells[· % z.cells.size]!))[i]? = some v → (zrow zs n)[i].one = true ∧ TRep w M φ S (zrow zs n)[i] v := by
  intro i hi v hv
  rw [zrow_len] at hi
  have hlt : i % zs.length < zs.length := Nat.mod_lt _ h0
  simp only [zrow, List.getElem_map, List.getElem_range]
  refine ⟨rfl, .c _ _ ?_⟩
  have e : zs.getD (i % zs.length) .nilptr = zs[i % zs.length] := by simp [List.getD, List.getElem?_eq_getElem hlt]
  rw [e]
  refine hc _ hlt v ?_
  simp only [Array.getElem?_map, Array.getElem?_range, if_pos (show i < m by omega), Option.map_some, Option.some.injEq] at hv
  rw [← hv, hl]
  have hlt2 : i % z.cells.size < z.cells.size := by rw [← hl]; exact hlt
  simp [hlt2]

def tvMake (P : Program) (S : Store) (t : TypeId) (l c : TV) : Option (TV × Store) := match P.underlying t, l, c with
  | some (.slice e), .c (.int _ n), .c (.int _ m) => match szOf P e, bytesOf P e, zeroCs P e with
    | some sz, some by_, some zs =>
      if 0 ≤ n ∧ n ≤ m ∧ by_ * m ≤ 281474976710656 ∧ m ≤ 281474976710656 ∧ 0 < zs.length then
        some (.view S.next 0 0 n.toNat, S.push (.cells 0 e sz (zrow zs (n.toNat * sz)))) else none
    | _, _, _ => none
  | _, _, _ => none

theorem tvMake_ok {t : TypeId} {vl vc v : TV} {l c : Value} {S' : Store} (hok : StoreOK F φ S w) (h : tvMake P S t vl vc = some (v, S'))
    (hl : TRep w (Mut F φ S) φ S vl l) (hc : TRep w (Mut F φ S) φ S vc c) :
    ∃ x w' φ', (Instr.makeSlice t l c).run P w = .ok x w' ∧ StoreOK F φ' S' w' ∧ Ext φ S w φ' S' w' ∧ TRep w' (Mut F φ' S') φ' S' v x := by
  unfold tvMake at h
  split at h
  · rename_i e _ n _ m hu
    split at h
    · rename_i sz by_ zs hsz hby hzs
      split at h
      · rename_i hcond
        obtain ⟨h1, h2, h3, h4, h5⟩ := hcond
        simp at h
        obtain ⟨rfl, rfl⟩ := h
        obtain rfl := rep_int hl
        obtain rfl := rep_int hc
        obtain ⟨z, hr, hzl, hzc⟩ := zeroCs_ok (P := P) (w := w) (M := Mut F φ S) hzs
        obtain ⟨i0, hi0, hb0⟩ : ∃ i, P.info? e = some i ∧ i.bytes = by_ := by
          unfold bytesOf at hby
          cases hi : P.info? e with
          | none => simp [hi] at hby
          | some i => simp [hi] at hby; exact ⟨i, rfl, hby⟩
        have hw1 : IntKind.i64.wrap n = n := by simp [IntKind.wrap, IntKind.bits, IntKind.signed]; omega
        have hw2 : IntKind.i64.wrap m = m := by simp [IntKind.wrap, IntKind.bits, IntKind.signed]; omega
        have hmul : n.toNat * sz ≤ m.toNat * sz := Nat.mul_le_mul_right _ (by omega)
        obtain ⟨b1, b2⟩ := push_cells (w := w) hok e sz (zrow zs (n.toNat * sz)) ((Array.range (m.toNat * sz)).map (z.cells[· % z.cells.size]!))
          (by rw [zrow_len]; simp; exact hmul) (zrow_rep hzl hzc h5 hmul)
        refine ⟨.slice (some ⟨w.heap.size, 0, none⟩) n.toNat m.toNat, _, _, ?_, b1, b2, ?_⟩
        · have ht1 : ¬ (m < 0 ∨ (by_ : Int) * m > 281474976710656) := by omega
          have hrun : (Instr.makeSlice t (.int ‹_› n) (.int ‹_› m)).run P w = .ok (.slice (some ⟨w.heap.size, 0, none⟩) n.toNat m.toNat) (World.pushed w (.cells ((Array.range (m.toNat * sz)).map (z.cells[· % z.cells.size]!)) e)) := by
            unfold Instr.makeSlice
            simp only [Sem.run_bind, run_underlying hu, Result.andThen_ok, asInt, asIntOf, Sem.run_pure, run_typeInfo w hi0, hw1, hw2, hb0]
            have hc1 : (decide (m < 0) || decide ((by_ : Int) * m > 2 ^ 48) || decide (n < 0) || decide (n > m)) = false := by
              simp
              refine ⟨⟨⟨by omega, by omega⟩, by omega⟩, by omega⟩
            simp only [hc1, Bool.false_eq_true, if_false, Sem.run_bind, run_askRoom, Result.andThen_ok, run_szOf hsz]
            by_cases hz0 : m.toNat * sz = 0
            · have e0 : ∀ f g : Nat → Value, (Array.range 0).map f = (Array.range 0).map g := fun f g => by apply Array.ext <;> simp
              simp only [hz0, if_true, Sem.run_bind, Sem.run_pure, Result.andThen_ok, newRow_run]
              rw [e0 _ (fun x => z.cells[x % z.cells.size]!)]
            · simp only [hz0, if_false, Sem.run_bind, hr, Result.andThen_ok, Sem.run_pure, newRow_run]
          exact hrun
        · refine .view _ _ _ _ _ _ _ (by omega) ⟨_, _, rfl⟩ (by rw [get_push, if_pos rfl]) (Nat.zero_le _) fun _ => ⟨fun _ => by simp [Env.new], fun et esz hs => ?_⟩
          simp [AObj.sort] at hs
          obtain ⟨rfl, rfl⟩ := hs
          simp [Env.new]
      · simp at h
    · simp at h
  · simp at h

/-! ### slice expressions -/
def boundOf (d : Nat) : Option TV → Option Nat
  | none => some d
  | some (.c (.int _ n)) => if 0 ≤ n then some n.toNat else none
  | some _ => none

def tvSlice (P : Program) (S : Store) (t : TypeId) (x : TV) (lo hi : Option TV) : Option TV := match P.underlying t with
  | some .string => match x with
    | .c (.str s) => match boundOf 0 lo, boundOf s.size hi with
      | some l, some h => if l ≤ h ∧ h ≤ s.size then some (.c (.str (s.extract l h))) else none
      | _, _ => none
    | _ => none
  | some (.slice e) => match szOf P e with
    | some sz => match x with
      | .c .nilsl => match boundOf 0 lo, boundOf 0 hi with
        | some l, some h => if l = 0 ∧ h = 0 then some (.c .nilsl) else none
        | _, _ => none
      | .c (.sl len cs) => match boundOf 0 lo, boundOf len hi with
        | some l, some h => if l ≤ h ∧ h ≤ len then some (.c (.sl (h - l) ((cs.drop (l * sz)).take ((h - l) * sz)))) else none
        | _, _ => none
      | .view id g off len => match S.at id g, boundOf 0 lo, boundOf len hi with
        | some (_, esz, _), some l, some h => if l ≤ h ∧ h ≤ len ∧ esz = sz then some (.view id g (off + l * sz) (h - l)) else none
        | _, _, _ => none
      | _ => none
    | none => none
  | some (.array n e) => match szOf P e with
    | some sz => match x with
      | .ptr id g off => match S.at id g, boundOf 0 lo, boundOf n hi with
        | some (_, esz, cs), some l, some h => if l ≤ h ∧ h ≤ n ∧ esz = 0 ∧ off + l * sz ≤ cs.length then some (.view id g (off + l * sz) (h - l)) else none
        | _, _, _ => none
      | .taddr cs => match boundOf 0 lo, boundOf n hi with
        | some l, some h => if l ≤ h ∧ h ≤ n then some (.c (.sl (h - l) ((cs.drop (l * sz)).take ((h - l) * sz)))) else none
        | _, _ => none
      | _ => none
    | none => none
  | _ => none

def bnd (d y : Nat) (code : BoundsCode) : Option Value → Sem Nat
  | some v => Instr.sliceBound v y code
  | none => pure d

theorem run_bound {vx : Option TV} {x : Option Value} {d y n : Nat} {code : BoundsCode} (h : boundOf d vx = some n) (hx : ∀ v, vx = some v → ∃ z, x = some z ∧ TRep w M φ S v z) (hn : vx = none → x = none) (hle : n ≤ y) :
    (bnd d y code x).run P w = .ok n w := by
  unfold boundOf at h
  split at h
  · rw [hn rfl]
    simp at h
    subst h
    rfl
  · obtain ⟨z, rfl, hz⟩ := hx _ rfl
    obtain rfl := rep_int hz
    split at h
    · rename_i h0
      simp at h
      subst h
      rename_i m
      have hc : 0 ≤ m ∧ m ≤ (y : Int) := ⟨h0, by omega⟩
      simp [bnd, Instr.sliceBound, asIntOf, hc.1, hc.2]
    · simp at h
  · simp at h

theorem run_bounds {isSlice : Bool} {len cap l h : Nat} {vl vh : Option TV} {lo hi : Option Value} (h1 : boundOf 0 vl = some l) (h2 : boundOf len vh = some h)
    (hl : ∀ v, vl = some v → ∃ z, lo = some z ∧ TRep w M φ S v z) (hln : vl = none → lo = none) (hh : ∀ v, vh = some v → ∃ z, hi = some z ∧ TRep w M φ S v z) (hhn : vh = none → hi = none)
    (hle : l ≤ h) (hc : h ≤ cap) : (Instr.sliceBounds isSlice len cap lo hi none).run P w = .ok (l, h, cap) w := by
  unfold Instr.sliceBounds
  have e2 := run_bound (P := P) (w := w) (code := if isSlice then .sliceAcap else .sliceAlen) h2 hh hhn hc
  have e1 := run_bound (P := P) (w := w) (code := .sliceB) h1 hl hln hle
  cases lo <;> cases hi <;> simp only [bnd, Sem.run_bind, Sem.run_pure, Result.andThen_ok, Option.isSome_none, Bool.false_eq_true, if_false] at e1 e2 ⊢ <;> simp_all

def optRep (w : World) (M : Nat → Prop) (φ : Env) (S : Store) (vx : Option TV) (x : Option Value) : Prop :=
  (∀ v, vx = some v → ∃ z, x = some z ∧ TRep w M φ S v z) ∧ (vx = none → x = none)

theorem tvSlice_ok {t : TypeId} {vx v : TV} {vl vh : Option TV} {x : Value} {lo hi : Option Value} (hok : StoreOK F φ S w) (h : tvSlice P S t vx vl vh = some v) (hx : TRep w (Mut F φ S) φ S vx x)
    (hl : optRep w (Mut F φ S) φ S vl lo) (hh : optRep w (Mut F φ S) φ S vh hi) :
    ∃ z, (Instr.sliceAt t x lo hi none).run P w = .ok z w ∧ TRep w (Mut F φ S) φ S v z := by
  unfold tvSlice at h
  split at h
  · rename_i hu
    split at h
    · rename_i s
      split at h
      · rename_i l hb h1 h2
        split at h
        · rename_i hle
          simp at h
          subst h
          obtain rfl := rep_str hx
          refine ⟨_, ?_, mk_str⟩
          simp only [Instr.sliceAt, Sem.run_bind, run_underlying hu, Result.andThen_ok, Instr.slice, Option.isSome_none, Bool.false_eq_true, if_false,
            run_bounds h1 h2 hl.1 hl.2 hh.1 hh.2 hle.1 hle.2, Sem.run_pure]
        · simp at h
      · simp at h
    · simp at h
  · rename_i e hu
    split at h
    · rename_i sz hsz
      split at h
      · split at h
        · rename_i l hb h1 h2
          split at h
          · rename_i hle
            obtain ⟨rfl, rfl⟩ := hle
            simp at h
            subst h
            obtain rfl := rep_nilsl hx
            refine ⟨_, ?_, .c _ _ .nilsl⟩
            simp only [Instr.sliceAt, Sem.run_bind, run_underlying hu, Result.andThen_ok, Instr.slice,
              run_bounds h1 h2 hl.1 hl.2 hh.1 hh.2 (Nat.le_refl 0) (Nat.le_refl 0), run_szOf hsz, Sem.run_pure]
            simp
          · simp at h
        · simp at h
      · rename_i len cs
        split at h
        · rename_i l hb h1 h2
          split at h
          · rename_i hle
            simp at h
            subst h
            cases hx with
            | c v x hx =>
              cases hx with
              | sl len cells b o cap f hcap hf hm hr =>
                refine ⟨.slice (some (if cap = l then ⟨b, o, none⟩ else ⟨b, o + l * sz, none⟩)) (hb - l) (cap - l), ?_, ?_⟩
                · simp only [Instr.sliceAt, Sem.run_bind, run_underlying hu, Result.andThen_ok, Instr.slice,
                    run_bounds h1 h2 hl.1 hl.2 hh.1 hh.2 hle.1 (show hb ≤ cap by omega), run_szOf hsz, Sem.run_pure]
                  by_cases hc : cap = l <;> simp [hc, add_none]
                · by_cases hc : cap = l
                  · have e0 : hb - l = 0 := by omega
                    simp only [hc, if_true, e0, Nat.zero_mul, List.take_zero]
                    exact .c _ _ (.sl _ _ _ _ _ f (by omega) (fun j hj => by simp at hj) (fun j hj => by simp at hj) (fun j hj => by simp at hj))
                  · simp only [if_neg hc]
                    obtain ⟨a1, a2, a3⟩ := row_drop (l * sz) hf hm hr
                    obtain ⟨c1, c2, c3⟩ := row_take ((hb - l) * sz) a1 a2 a3
                    exact .c _ _ (.sl _ _ _ _ _ _ (by omega) c1 c2 c3)
              | sl0 ad =>
                have e1 : l = 0 := by omega
                have e2 : hb = 0 := by omega
                subst e1 e2
                refine ⟨.slice (some ad) 0 0, ?_, ?_⟩
                · simp only [Instr.sliceAt, Sem.run_bind, run_underlying hu, Result.andThen_ok, Instr.slice,
                    run_bounds h1 h2 hl.1 hl.2 hh.1 hh.2 (Nat.le_refl 0) (Nat.le_refl 0), run_szOf hsz, Sem.run_pure]
                  simp
                · simp only [Nat.sub_self, Nat.zero_mul, List.take_zero]
                  exact .c _ _ (.sl0 ad)
              | slnil =>
                have e1 : l = 0 := by omega
                have e2 : hb = 0 := by omega
                subst e1 e2
                refine ⟨.slice none 0 0, ?_, ?_⟩
                · simp only [Instr.sliceAt, Sem.run_bind, run_underlying hu, Result.andThen_ok, Instr.slice,
                    run_bounds h1 h2 hl.1 hl.2 hh.1 hh.2 (Nat.le_refl 0) (Nat.le_refl 0), run_szOf hsz, Sem.run_pure]
                  simp
                · simp only [Nat.sub_self, Nat.zero_mul, List.take_zero]
                  exact .c _ _ .slnil
          · simp at h
        · simp at h
      · rename_i id g off len
        split at h
        · rename_i et esz cs l hb hat h1 h2
          split at h
          · rename_i hle
            obtain ⟨c1, c2, rfl⟩ := hle
            simp at h
            subst h
            have hg := at_some hat
            cases hx with
            | view id g off len ad cap o hcap he g1 g2 g3 =>
              rw [hg] at g1
              injection g1 with g1
              subst g1
              obtain ⟨b1, b2⟩ := g3 rfl
              refine ⟨.slice (if cap = l then ad else ad.map (·.add (l * esz))) (hb - l) (cap - l), ?_, ?_⟩
              · simp only [Instr.sliceAt, Sem.run_bind, run_underlying hu, Result.andThen_ok, Instr.slice,
                  run_bounds h1 h2 hl.1 hl.2 hh.1 hh.2 c1 (show hb ≤ cap by omega), run_szOf hsz, Sem.run_pure]
              · refine .view _ _ _ _ _ _ _ (by omega) (by
                obtain ⟨b, f, rfl⟩ := he
                split
                · exact ⟨b, f, rfl⟩
                · exact ⟨b, f + l * esz, by simp [add_none]⟩) hg (Nat.le_refl _) fun _ => ⟨fun hc => ?_, fun et' esz' hs => ?_⟩
                · rw [if_neg (by omega), b1 (by omega)]
                  simp [add_none, Nat.add_assoc]
                · have hs' := hs
                  simp [AObj.sort] at hs'
                  obtain ⟨rfl, rfl⟩ := hs'
                  have := b2 et esz hs
                  have hm : l * esz + (cap - l) * esz = cap * esz := by rw [← Nat.add_mul]; congr 1; omega
                  omega
          · simp at h
        · simp at h
      · simp at h
    · simp at h
  · rename_i n e hu
    split at h
    · rename_i sz hsz
      split at h
      · rename_i id g off
        split at h
        · rename_i et esz cs l hb hat h1 h2
          split at h
          · rename_i hle
            obtain ⟨c1, c2, c3, c4⟩ := hle
            simp at h
            subst h
            have hg := at_some hat
            cases hx with
            | ptr id g off ad o g1 g2 g3 =>
              rw [hg] at g1
              injection g1 with g1
              subst g1
              have b1 := g3 rfl
              subst b1
              refine ⟨.slice (some (if n = l then ⟨φ.blk id, φ.base id + off, none⟩ else (⟨φ.blk id, φ.base id + off, none⟩ : Addr).add (l * sz))) (hb - l) (n - l), ?_, ?_⟩
              · simp only [Instr.sliceAt, Instr.sureAddr, Sem.run_bind, run_underlying hu, Result.andThen_ok,
                  run_bounds h1 h2 hl.1 hl.2 hh.1 hh.2 c1 c2, run_szOf hsz, Sem.run_pure]
              · refine .view _ _ _ _ _ _ _ (by omega) (by
                split
                · exact ⟨_, _, rfl⟩
                · exact ⟨φ.blk id, φ.base id + off + l * sz, by simp [add_none]⟩) hg (Nat.le_refl _) fun _ => ⟨fun hc => ?_, fun et' esz' hs => ?_⟩
                · rw [if_neg (by omega), add_none, Nat.add_assoc]
                · have hs' := hs
                  simp [AObj.sort] at hs'
                  obtain ⟨rfl, rfl⟩ := hs'
                  obtain ⟨arr, d1, d2, d3, d4⟩ := hok.obj id _ hg
                  simp only [c3, Nat.mul_zero]
                  omega
          · simp at h
        · simp at h
      · rename_i cs
        split at h
        · rename_i l hb h1 h2
          split at h
          · rename_i hle
            simp at h
            subst h
            cases hx with
            | taddr cells b o f hf hm hr =>
              refine ⟨.slice (some (if n = l then ⟨b, o, none⟩ else ⟨b, o + l * sz, none⟩)) (hb - l) (n - l), ?_, ?_⟩
              · simp only [Instr.sliceAt, Instr.sureAddr, Sem.run_bind, run_underlying hu, Result.andThen_ok,
                  run_bounds h1 h2 hl.1 hl.2 hh.1 hh.2 hle.1 hle.2, run_szOf hsz, Sem.run_pure]
                by_cases hc : n = l <;> simp [hc, add_none]
              · by_cases hc : n = l
                · have e0 : hb - l = 0 := by omega
                  simp only [hc, if_true, e0, Nat.zero_mul, List.take_zero]
                  exact .c _ _ (.sl _ _ _ _ _ f (by omega) (fun j hj => by simp at hj) (fun j hj => by simp at hj) (fun j hj => by simp at hj))
                · simp only [if_neg hc]
                  obtain ⟨a1, a2, a3⟩ := row_drop (l * sz) hf hm hr
                  obtain ⟨c1, c2, c3⟩ := row_take ((hb - l) * sz) a1 a2 a3
                  exact .c _ _ (.sl _ _ _ _ _ _ (by omega) c1 c2 c3)
          · simp at h
        · simp at h
      · simp at h
    · simp at h
  · simp at h
end
end Go.Sim
