/- A part of the proof: values and stores in plain Lean, and the rules by which a walk is taken. -/
import Derived.Test.YtihdifmachfdbaaSimG
import Derived.Laws.AppendOwn
set_option autoImplicit false
set_option linter.unusedSimpArgs false
set_option linter.unusedVariables false
namespace Go.Sim
open Go

section
variable {P : Program} {N : Nat} {F : Nat → Prop} {φ : Env} {T : Nat → TV} {S : Store} {a : Act} {w : World} {M : Nat → Prop}

/-! ### a draw; an object that moves -/
theorem ext_drew : Ext φ S w φ S w.drew := ⟨Nat.le_refl _, fun _ _ _ => rfl, fun _ _ h => h, fun _ o h => ⟨o, h, Nat.le_refl _, rfl, fun _ => ⟨rfl, rfl, rfl⟩⟩, rfl, rfl, rfl⟩

theorem ok_same {w' : World} (hh : w'.heap = w.heap) (hx : Ext φ S w φ S w') (hok : StoreOK F φ S w) : StoreOK F φ S w' := by
  refine ⟨fun id o h => ?_, hok.fresh, hok.inj, hok.far, fun b h => by rw [hh]; exact hok.old b h⟩
  have h3 := hok.obj id o h
  cases o with
  | cells g et esz cs =>
    obtain ⟨arr, g1, g2, g3, g4⟩ := h3
    exact ⟨arr, by rw [hh]; exact g1, g2, g3, fun i hi v hv => ⟨(g4 i hi v hv).1, (g4 i hi v hv).2.ext hx⟩⟩
  | map es c =>
    obtain ⟨arr, g1, g2, g3⟩ := h3
    refine ⟨arr, by rw [hh]; exact g1, g2, fun i hi e he => ?_⟩
    obtain ⟨a1, a2, a3⟩ := g3 i hi e he
    exact ⟨a1.ext hx, a2.ext hx, a3⟩

theorem ok_drew (hok : StoreOK F φ S w) : StoreOK F φ S w.drew := ok_same (w := w) (w' := w.drew) rfl ext_drew hok

def Env.at (φ : Env) (id b base n : Nat) : Env :=
  { blk := fun i => if i = id then b else φ.blk i, base := fun i => if i = id then base else φ.base i, sz := fun i => if i = id then n else φ.sz i }

theorem rebind {w' : World} (hok : StoreOK F φ S w) {id g g' : Nat} {et : TypeId} {esz : Nat} {cs cs' : List TV} {b base : Nat} {arr : Array Value}
    (hg : S.get id = some (.cells g et esz cs)) (hgg : g < g') (hsz : w.heap.size ≤ w'.heap.size) (hkeep : ∀ k, k < w.heap.size → k ≠ φ.blk id → w'.heap[k]? = w.heap[k]?)
    (hb : b = φ.blk id ∨ w.heap.size ≤ b) (hos : w'.os = w.os) (htape : w'.tape = w.tape) (hout : w'.output = w.output)
    (ha : w'.heap[b]? = some (.cells arr et (0, 0))) (hl : base + cs'.length ≤ arr.size)
    (hc : ∀ i (hi : i < cs'.length) v, arr[base + i]? = some v → cs'[i].one = true ∧ TRep w (Mut F φ S) φ S cs'[i] v) :
    StoreOK F (φ.at id b base arr.size) (S.set id (.cells g' et esz cs')) w' ∧ Ext φ S w (φ.at id b base arr.size) (S.set id (.cells g' et esz cs')) w' := by
  have hold : ∀ i o, S.get i = some o → φ.blk i < w.heap.size := fun i o h => by
    have := hok.obj i o h
    cases o with
    | cells g et esz cs => obtain ⟨arr, h1, _⟩ := this; exact (Array.getElem?_eq_some_iff.1 h1).1
    | map es c => obtain ⟨arr, h1, _⟩ := this; exact (Array.getElem?_eq_some_iff.1 h1).1
  have hx : Ext φ S w (φ.at id b base arr.size) (S.set id (.cells g' et esz cs')) w' := by
    refine ⟨hsz, fun k hk hl => hkeep k hk fun e => hl ⟨id, _, hg, e.symm⟩, fun k hk => ?_, fun i o hi => ?_, hos, htape, hout⟩
    · rintro ⟨i, o, h1, h2⟩
      rw [get_set] at h1
      by_cases e : i = id
      · subst e
        simp [Env.at] at h2
        refine ⟨i, _, hg, ?_⟩
        rcases hb with hb | hb <;> omega
      · rw [if_neg e] at h1
        simp only [Env.at, if_neg e] at h2
        exact ⟨i, o, h1, h2⟩
    · by_cases e : i = id
      · subst e
        rw [hg] at hi
        injection hi with hi
        subst hi
        exact ⟨.cells g' et esz cs', by rw [get_set, if_pos rfl], Nat.le_of_lt hgg, rfl, fun h => by simp only [AObj.gen] at h; omega⟩
      · exact ⟨o, by rw [get_set, if_neg e]; exact hi, Nat.le_refl _, rfl, fun _ => by simp [Env.at, e]⟩
  refine ⟨⟨fun i o hi => ?_, fun i hi => ?_, fun i j o1 o2 h1 h2 he => ?_, fun i o hi => ?_, fun k hk => Nat.lt_of_lt_of_le (hok.old k hk) hsz⟩, hx⟩
  · rw [get_set] at hi
    by_cases e : i = id
    · subst e
      simp at hi
      subst hi
      refine ⟨arr, by simp [Env.at, ha], by simp [Env.at], by simp [Env.at]; exact hl, fun j hj v hv => ?_⟩
      simp only [Env.at, if_true] at hv
      exact ⟨(hc j hj v hv).1, (hc j hj v hv).2.ext hx⟩
    · rw [if_neg e] at hi
      have hne : φ.blk i ≠ φ.blk id := fun e' => e (hok.inj i id _ _ hi hg e')
      have hlt := hold i o hi
      have h3 := hok.obj i o hi
      cases o with
      | cells g1 et1 esz1 cs1 =>
        obtain ⟨arr1, g1, g2, g3, g4⟩ := h3
        refine ⟨arr1, ?_, ?_, ?_, fun j hj v hv => ?_⟩
        · simp only [Env.at, if_neg e]; rw [hkeep _ hlt hne]; exact g1
        · simp only [Env.at, if_neg e]; exact g2
        · simp only [Env.at, if_neg e]; exact g3
        · simp only [Env.at, if_neg e] at hv
          exact ⟨(g4 j hj v hv).1, (g4 j hj v hv).2.ext hx⟩
      | map es c =>
        obtain ⟨arr1, g1, g2, g3⟩ := h3
        refine ⟨arr1, ?_, g2, fun j hj e' he' => ?_⟩
        · simp only [Env.at, if_neg e]; rw [hkeep _ hlt hne]; exact g1
        · obtain ⟨a1, a2, a3⟩ := g3 j hj e' he'
          exact ⟨a1.ext hx, a2.ext hx, a3⟩
  · rw [next_set] at hi
    have hne : i ≠ id := fun e => by
      subst e
      rw [hok.fresh i hi] at hg
      exact absurd hg (by simp)
    rw [get_set, if_neg hne]
    exact hok.fresh i hi
  · rw [get_set] at h1 h2
    by_cases e1 : i = id <;> by_cases e2 : j = id
    · omega
    · rw [if_neg e2] at h2
      simp only [Env.at, if_pos e1, if_neg e2] at he
      have hlt := hold j o2 h2
      rcases hb with hb | hb
      · exact absurd (hok.inj j id _ _ h2 hg (by omega)) e2
      · omega
    · rw [if_neg e1] at h1
      simp only [Env.at, if_pos e2, if_neg e1] at he
      have hlt := hold i o1 h1
      rcases hb with hb | hb
      · exact absurd (hok.inj i id _ _ h1 hg (by omega)) e1
      · omega
    · rw [if_neg e1] at h1
      rw [if_neg e2] at h2
      simp only [Env.at, if_neg e1, if_neg e2] at he
      exact hok.inj i j o1 o2 h1 h2 he
  · rw [get_set] at hi
    by_cases e : i = id
    · subst e
      simp only [Env.at, if_true]
      rcases hb with hb | hb
      · rw [hb]; exact hok.far i _ hg
      · intro hF
        have := hok.old _ hF
        omega
    · rw [if_neg e] at hi
      simp only [Env.at, if_neg e]
      exact hok.far i o hi

/-! ### append: the operation -/
theorem run_append_in {t xt ty e : TypeId} {d : TypeDesc} {i : TypeInfo} (ht : P.underlying t = some (.slice e)) (hxt : P.underlying xt = some d) (hd : ∀ k, d ≠ .int k) (hi : P.info? e = some i)
    {base : Option Addr} {sLen sCap n : Nat} {x : Value} {nv : Array Value} {w1 : World} (hn : (Builtin.lenOf x).run P w = .ok n w) (hf : (Builtin.firstCells i.size n x).run P w = .ok nv w)
    (hroom : sLen + n ≤ sCap) (hst : ∀ ad, base = some ad → (storeCells (ad.add (sLen * i.size)) nv.toList).run P w = .ok () w1) (hb : base = none → w1 = w) :
    (Builtin.append_ #[t, xt] ty #[.slice base sLen sCap, x]).run P w = .ok (.slice base (sLen + n) sCap) w1 := by
  unfold Builtin.append_
  have hz : (d matches .int _) = false := by cases d <;> first | rfl | exact absurd rfl (hd _)
  cases base with
  | none =>
    obtain rfl := hb rfl
    simp [run_underlying ht, run_underlying hxt, sizeOf, typeInfo, hi, hz, hn, hroom, hf]
  | some ad =>
    have := hst ad rfl
    simp [run_underlying ht, run_underlying hxt, sizeOf, typeInfo, hi, hz, hn, hroom, hf, this]

theorem run_append_out {t xt ty e : TypeId} {d : TypeDesc} {i : TypeInfo} {z : Value} (ht : P.underlying t = some (.slice e)) (hxt : P.underlying xt = some d) (hd : ∀ k, d ≠ .int k) (hi : P.info? e = some i) (hz : i.zero = some z)
    {base : Option Addr} {sLen sCap n : Nat} {x : Value} {ov nv : Array Value} (hn : (Builtin.lenOf x).run P w = .ok n w) (hf : (Builtin.firstCells i.size n x).run P w.drew = .ok nv w.drew)
    (ho : (Builtin.firstCells i.size sLen (.slice base sLen sCap)).run P w.drew = .ok ov w.drew)
    (hroom : sCap < sLen + n) (h63 : ((sLen + n : Nat) : Int) ≤ 9223372036854775807) (hfit : Builtin.nextslicecap (sLen + n) sCap * i.bytes ≤ 281474976710656) :
    (Builtin.append_ #[t, xt] ty #[.slice base sLen sCap, x]).run P w =
      .ok (.slice (some ⟨w.heap.size, 0, none⟩) (sLen + n) (grownCap w (sLen + n) sCap e))
        (World.pushed w.drew (.cells (ov ++ nv ++ Builtin.zeroCells z.cells (grownCap w (sLen + n) sCap e - (sLen + n))) e)) := by
  unfold Builtin.append_
  have hzz : (d matches .int _) = false := by cases d <;> first | rfl | exact absurd rfl (hd _)
  have hnr : ¬ (sLen + n ≤ sCap) := by omega
  have h63' : ¬ (9223372036854775807 < ((sLen : Int) + (n : Int))) := by omega
  have h48' : ¬ (281474976710656 < Builtin.nextslicecap (sLen + n) sCap * i.bytes) := by omega
  simp [run_underlying ht, run_underlying hxt, sizeOf, typeInfo, zeroValue, hi, hz, hzz, hn, hnr, h63', h48', Question.forced, hf, ho, newRow, grownCap]
  rfl

/-- What is appended. -/
def srcOf (P : Program) (S : Store) (sz : Nat) : TV → Option (Nat × List TV)
  | .c .nilsl => some (0, [])
  | .c (.sl n cs) => if cs.length = n * sz then some (n, cs.map .c) else none
  | .view id g off n => match S.at id g with
    | some (_, _, cs) => if off + n * sz ≤ cs.length then some (n, (cs.drop off).take (n * sz)) else none
    | none => none
  | .c (.str s) => if sz = 1 then some (s.size, s.data.toList.map fun b => .c (.int .u8 b.toNat)) else none
  | _ => none

def tvAppend (P : Program) (S : Store) (t xt : TypeId) (s x : TV) : Option (TV × Store) := match P.underlying t, P.underlying xt with
  | some (.slice e), some d => match d with
    | .int _ => none
    | _ => match szOf P e, bytesOf P e, zeroCs P e with
      | some sz, some by_, some zs => if zs.length = sz ∧ 0 < sz then match srcOf P S sz x with
          | some (n, l) => match s with
            | .c .nilsl => if n = 0 then some (.c .nilsl, S) else if n * by_ ≤ 140737488355328 ∧ n ≤ 140737488355328 then some (.view S.next 0 0 n, S.push (.cells 0 e sz l)) else none
            | .view id g off len => match S.at id g with
              | some (et, esz, cs) => if n = 0 then some (.view id g off len, S) else
                if et = e ∧ esz = sz ∧ off + len * sz ≤ cs.length ∧ (len + n) * by_ ≤ 140737488355328 ∧ len + n ≤ 140737488355328 then
                  some (.view id (g + 1) 0 (len + n), S.set id (.cells (g + 1) e sz ((cs.drop off).take (len * sz) ++ l))) else none
              | none => none
            | _ => none
          | none => none
        else none
      | _, _, _ => none
  | _, _ => none

theorem src_ok {sz n : Nat} {vx : TV} {x : Value} {l : List TV} (hok : StoreOK F φ S w) (h : srcOf P S sz vx = some (n, l)) (hx : TRep w (Mut F φ S) φ S vx x) :
    (Builtin.lenOf x).run P w = .ok n w ∧ ∃ nv : Array Value, (∀ w' : World, w'.heap = w.heap → (Builtin.firstCells sz n x).run P w' = .ok nv w') ∧ l.length = n * sz ∧ l.length = nv.size ∧
      (∀ i (hi : i < l.length) v, nv[i]? = some v → l[i].one = true ∧ TRep w (Mut F φ S) φ S l[i] v) ∧ (∀ v, v ∈ nv.toList → v.oneCell' = true) := by
  have fin : ∀ (l : List TV) (nv : Array Value), l.length = nv.size → (∀ i (hi : i < l.length) v, nv[i]? = some v → l[i].one = true ∧ TRep w (Mut F φ S) φ S l[i] v) → ∀ v, v ∈ nv.toList → v.oneCell' = true := by
    intro l nv hl hr v hv
    obtain ⟨i, hi, rfl⟩ := List.getElem_of_mem hv
    simp at hi
    obtain ⟨a1, a2⟩ := hr i (by omega) nv[i] (by simp)
    simpa using (one_oneCell a2 a1).1
  unfold srcOf at h
  split at h
  · simp at h
    obtain ⟨rfl, rfl⟩ := h
    obtain rfl := rep_nilsl hx
    refine ⟨rfl, #[], fun w' _ => rfl, by simp, rfl, fun i hi => absurd hi (by simp), fun v hv => by simp at hv⟩
  · rename_i m cs
    split at h
    · rename_i hl
      simp at h
      obtain ⟨rfl, rfl⟩ := h
      cases hx with
      | c v x hx =>
        cases hx with
        | sl _ _ b o cap f hcap hf hm hr =>
          have key : ∀ i (hi : i < (cs.map TV.c).length) v, (((List.range cs.length).map f).toArray)[i]? = some v → (cs.map TV.c)[i].one = true ∧ TRep w (Mut F φ S) φ S (cs.map TV.c)[i] v := by
            intro i hi v hv
            simp at hi
            rw [(range_get hv).2]
            simp only [List.getElem_map]
            exact ⟨rfl, .c _ _ (hr i hi)⟩
          refine ⟨rfl, ((List.range cs.length).map f).toArray, fun w' hw' => ?_, by simpa using hl, by simp, key, fin _ _ (by simp) key⟩
          simp only [Builtin.firstCells, ← hl]
          exact run_loadCells w' _ _ f fun j hj => by rw [add_none]; exact cell_same (hf j hj) (by rw [hw'])
        | sl0 ad =>
          refine ⟨rfl, #[], fun w' hw' => ?_, by simp, by simp, fun i hi => absurd hi (by simp), fun v hv => by simp at hv⟩
          simp only [Builtin.firstCells, Nat.zero_mul]
          exact run_loadCells w' ad 0 (fun _ => undef) fun j hj => absurd hj (by omega)
        | slnil => exact ⟨rfl, #[], fun w' _ => rfl, by simp, by simp, fun i hi => absurd hi (by simp), fun v hv => by simp at hv⟩
    · simp at h
  · rename_i id g off m
    split at h
    · rename_i et esz cs hat
      split at h
      · rename_i hle
        simp at h
        obtain ⟨rfl, rfl⟩ := h
        have hg := at_some hat
        obtain ⟨arr, a1, a2, a3, a4⟩ := obj_cell hok hg
        cases hx with
        | view id g off len ad cap o hcap he g1 g2 g3 =>
          rw [hg] at g1
          injection g1 with g1
          subst g1
          obtain ⟨b1, b2⟩ := g3 rfl
          refine ⟨rfl, ?_⟩
          have hex : ∀ j, ∃ v, j < m * sz → w.cell? ⟨φ.blk id, φ.base id + off + j, none⟩ = some v ∧ ∀ hj : off + j < cs.length, cs[off + j].one = true ∧ TRep w (Mut F φ S) φ S cs[off + j] v := fun j => by
            by_cases hj : j < m * sz
            · obtain ⟨v, c1, c2, c3, c4⟩ := a4 (off + j) (by omega)
              exact ⟨v, fun _ => ⟨by rw [← c2]; simp [Nat.add_assoc], fun _ => ⟨c3, c4⟩⟩⟩
            · exact ⟨undef, fun h => absurd h hj⟩
          obtain ⟨f, hf⟩ := Classical.axiomOfChoice hex
          have hlen : ((cs.drop off).take (m * sz)).length = m * sz := by simp; omega
          have key : ∀ i (hi : i < ((cs.drop off).take (m * sz)).length) v, (((List.range (m * sz)).map f).toArray)[i]? = some v → ((cs.drop off).take (m * sz))[i].one = true ∧ TRep w (Mut F φ S) φ S ((cs.drop off).take (m * sz))[i] v := by
            intro i hi v hv
            have hi2 : i < m * sz := by rw [hlen] at hi; exact hi
            rw [(range_get hv).2]
            have e1 : ((cs.drop off).take (m * sz))[i] = cs[off + i]'(by omega) := by simp
            rw [e1]
            exact (hf i hi2).2 _
          refine ⟨((List.range (m * sz)).map f).toArray, fun w' hw' => ?_, hlen, by rw [hlen]; simp, key, fin _ _ (by rw [hlen]; simp) key⟩
          by_cases hc : 0 < cap
          · rw [b1 hc]
            simp only [Builtin.firstCells]
            exact run_loadCells w' _ _ f fun j hj => by rw [add_none]; exact cell_same (hf j hj).1 (by rw [hw'])
          · have hm0 : m = 0 := by omega
            subst hm0
            cases ad <;> simp [Builtin.firstCells, loadCells, loadCellsFrom]
      · simp at h
    · simp at h
  · rename_i s
    split at h
    · rename_i hsz
      subst hsz
      simp at h
      obtain ⟨rfl, rfl⟩ := h
      obtain rfl := rep_str hx
      have hsize : s.data.size = s.size := rfl
      have key : ∀ i (hi : i < (s.data.toList.map fun b => TV.c (.int .u8 b.toNat)).length) v, ((s.data.map fun b => Value.int .u8 b.toNat))[i]? = some v → (s.data.toList.map fun b => TV.c (.int .u8 b.toNat))[i].one = true ∧ TRep w (Mut F φ S) φ S (s.data.toList.map fun b => TV.c (.int .u8 b.toNat))[i] v := by
        intro i hi v hv
        simp at hi
        simp [hi] at hv
        subst hv
        simp only [List.getElem_map, Array.getElem_toList]
        exact ⟨rfl, mk_int⟩
      refine ⟨rfl, s.data.map fun b => .int .u8 b.toNat, fun w' _ => ?_, by simp [hsize], by simp, key, fin _ _ (by simp) key⟩
      simp only [Builtin.firstCells, Sem.run_pure]
      congr 2
      have : (s.extract 0 s.size) = s := by simp
      rw [this]
    · simp at h
  · simp at h
end
end Go.Sim
