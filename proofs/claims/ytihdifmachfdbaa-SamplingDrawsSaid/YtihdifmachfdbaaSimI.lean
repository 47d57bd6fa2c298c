/- A part of the proof: values and stores in plain Lean, and the rules by which a walk is taken. -/
import Derived.Test.YtihdifmachfdbaaSimH
set_option autoImplicit false
set_option linter.unusedSimpArgs false
set_option linter.unusedVariables false
namespace Go.Sim
open Go

section
variable {P : Program} {N : Nat} {F : Nat → Prop} {φ : Env} {T : Nat → TV} {S : Store} {a : Act} {w : World} {M : Nat → Prop}

theorem app_get {l1 l2 : List TV} {a1 a2 a3 : Array Value} {Q : TV → Value → Prop} (h1 : l1.length = a1.size) (h2 : l2.length = a2.size)
    (q1 : ∀ i (hi : i < l1.length) v, a1[i]? = some v → Q l1[i] v) (q2 : ∀ i (hi : i < l2.length) v, a2[i]? = some v → Q l2[i] v) :
    ∀ i (hi : i < (l1 ++ l2).length) v, (a1 ++ a2 ++ a3)[i]? = some v → Q (l1 ++ l2)[i] v := by
  intro i hi v hv
  simp at hi
  rw [Array.append_assoc, Array.getElem?_append] at hv
  split at hv
  · rename_i hc
    rw [List.getElem_append_left (by omega)]
    exact q1 i (by omega) v hv
  · rename_i hc
    rw [Array.getElem?_append, if_pos (by omega)] at hv
    rw [List.getElem_append_right (by omega)]
    have := q2 (i - l1.length) (by omega) v (by rw [← hv]; congr 1; omega)
    exact this

theorem tvAppend_ok {t xt ty : TypeId} {vs vx v : TV} {s x : Value} {S' : Store} (hok : StoreOK F φ S w) (h : tvAppend P S t xt vs vx = some (v, S'))
    (hs : TRep w (Mut F φ S) φ S vs s) (hx : TRep w (Mut F φ S) φ S vx x) :
    ∃ y w' φ', (Builtin.append_ #[t, xt] ty #[s, x]).run P w = .ok y w' ∧ StoreOK F φ' S' w' ∧ Ext φ S w φ' S' w' ∧ TRep w' (Mut F φ' S') φ' S' v y := by
  unfold tvAppend at h
  split at h
  · rename_i e d hu hxt
    split at h
    · simp at h
    · rename_i hd
      split at h
      · rename_i sz by_ zs hsz hby hzs
        split at h
        · rename_i hzl
          obtain ⟨hzl, hsz0⟩ := hzl
          split at h
          · rename_i n l hsrc
            obtain ⟨hlen, nv, hfc, hln, hnv, hrep, hone⟩ := src_ok hok hsrc hx
            obtain ⟨i0, hi0, hi1, hi2, z, hi3⟩ : ∃ i, P.info? e = some i ∧ i.bytes = by_ ∧ i.size = sz ∧ ∃ z, i.zero = some z := by
              unfold bytesOf at hby
              unfold szOf at hsz
              unfold zeroCs at hzs
              cases hi : P.info? e with
              | none => simp [hi] at hby
              | some i =>
                simp [hi] at hby hsz hzs
                cases hz : i.zero with
                | none => simp [hz] at hzs
                | some z => exact ⟨i, rfl, hby, hsz, z, hz⟩
            obtain ⟨z', hz1, hz2, hz3⟩ := zeroCs_ok (P := P) (w := w) (M := Mut F φ S) hzs
            have hzz : z' = z := by
              simp [zeroValue, run_typeInfo w hi0, hi3] at hz1
              exact hz1.symm
            subst hzz
            subst hi2
            have hd' : ∀ k, d ≠ .int k := fun k e => hd k e
            -- what a new block holds
            have grown : ∀ (ov : Array Value) (l0 : List TV) (sLen sCap : Nat) (base : Option Addr), l0.length = ov.size → l0.length = sLen * i0.size →
                (∀ i (hi : i < l0.length) v, ov[i]? = some v → l0[i].one = true ∧ TRep w (Mut F φ S) φ S l0[i] v) →
                s = .slice base sLen sCap → (Builtin.firstCells i0.size sLen (.slice base sLen sCap)).run P w.drew = .ok ov w.drew → sCap < sLen + n → (sLen + n) * by_ ≤ 140737488355328 → sLen + n ≤ 140737488355328 →
                ∃ (cap : Nat) (arr : Array Value), sLen + n ≤ cap ∧ (Builtin.append_ #[t, xt] ty #[s, x]).run P w = .ok (.slice (some ⟨w.heap.size, 0, none⟩) (sLen + n) cap) (World.pushed w.drew (.cells arr e)) ∧ arr.size = cap * i0.size ∧
                  (∀ i (hi : i < (l0 ++ l).length) v, arr[i]? = some v → (l0 ++ l)[i].one = true ∧ TRep w (Mut F φ S) φ S (l0 ++ l)[i] v) := by
              intro ov l0 sLen sCap base g1 g2 g3 g4 g5 g6 g7 g8
              subst g4
              have hr := run_append_out (ty := ty) hu hxt hd' hi0 hi3 hlen (hfc w.drew rfl) g5 g6 (by omega) (growslice_fits g6 (by rw [hi1]; exact g7))
              have hge := grownCap_ge w (sLen + n) sCap e
              refine ⟨_, _, hge, hr, ?_, app_get (Q := fun t v => t.one = true ∧ TRep w (Mut F φ S) φ S t v) g1 hnv g3 hrep⟩
              simp only [Array.size_append, size_zeroCells, ← g1, g2, ← hnv, hln, ← hz2, hzl, ← Nat.add_mul]
              congr 1
              omega
            split at h
            · obtain rfl := rep_nilsl hs
              split at h
              · rename_i hn0
                subst hn0
                simp at h
                obtain ⟨rfl, rfl⟩ := h
                refine ⟨_, w, φ, run_append_in hu hxt hd' hi0 hlen (hfc w rfl) (by omega) (fun ad h => by simp at h) (fun _ => rfl), hok, Ext.refl φ S w, .c _ _ .nilsl⟩
              · split at h
                · rename_i hn0 hb
                  simp at h
                  obtain ⟨rfl, rfl⟩ := h
                  obtain ⟨cap, arr, c1, c2, c3, c4⟩ := grown #[] [] 0 0 none rfl (by simp) (fun i hi => absurd hi (by simp)) rfl rfl (by omega) (by simpa using hb.1) (by simpa using hb.2)
                  simp only [List.nil_append, Nat.zero_add] at c1 c2 c3 c4
                  have hok2 := ok_drew hok
                  obtain ⟨b1, b2⟩ := push_cells (w := w.drew) hok2 e i0.size l arr (by rw [hln, c3]; exact Nat.mul_le_mul_right _ c1)
                    (fun i hi v hv => ⟨(c4 i hi v hv).1, (c4 i hi v hv).2.ext ext_drew⟩)
                  refine ⟨_, _, _, c2, b1, ext_drew.trans b2, .view _ _ _ _ _ _ _ c1 ⟨_, _, rfl⟩ (by rw [get_push, if_pos rfl]) (Nat.zero_le _) fun _ => ⟨fun _ => by simp [Env.new], fun et esz hs => ?_⟩⟩
                  simp [AObj.sort] at hs
                  obtain ⟨rfl, rfl⟩ := hs
                  simp [Env.new, c3]
                · simp at h
            · rename_i id g off len
              split at h
              · rename_i et esz cs hat
                have hg := at_some hat
                cases hs with
                | view id g off len ad cap o hcap he g1 g2 g3 =>
                  rw [hg] at g1
                  injection g1 with g1
                  subst g1
                  obtain ⟨b1, b2⟩ := g3 rfl
                  split at h
                  · rename_i hn0
                    subst hn0
                    simp at h
                    obtain ⟨rfl, rfl⟩ := h
                    have hnv0 : nv.toList = [] := by
                      apply List.eq_nil_of_length_eq_zero
                      simp [← hnv, hln]
                    refine ⟨_, w, φ, run_append_in (sCap := cap) hu hxt hd' hi0 hlen (hfc w rfl) (by omega) (fun ad h => by rw [hnv0]; simp [storeCells]) (fun _ => rfl), hok, Ext.refl φ S w, ?_⟩
                    exact .view _ _ _ _ _ _ _ hcap he hg g2 fun _ => ⟨b1, b2⟩
                  · rename_i hn0
                    split at h
                    · rename_i hc
                      obtain ⟨rfl, rfl, hle, hb, hb2⟩ := hc
                      simp at h
                      obtain ⟨rfl, rfl⟩ := h
                      obtain ⟨arr, a1, a2, a3, a4⟩ := obj_cell hok hg
                      have hroomsz := b2 et i0.size rfl
                      have hol : ((cs.drop off).take (len * i0.size)).length = len * i0.size := by simp; omega
                      have hoi : ∀ i (hi : i < ((cs.drop off).take (len * i0.size)).length), ∃ v, arr[φ.base id + off + i]? = some v ∧ w.cell? ⟨φ.blk id, φ.base id + off + i, none⟩ = some v ∧
                          ((cs.drop off).take (len * i0.size))[i].one = true ∧ TRep w (Mut F φ S) φ S ((cs.drop off).take (len * i0.size))[i] v := by
                        intro i hi
                        rw [hol] at hi
                        obtain ⟨v, d1, d2, d3, d4⟩ := a4 (off + i) (by omega)
                        have e1 : ((cs.drop off).take (len * i0.size))[i]'(by omega) = cs[off + i]'(by omega) := by simp
                        rw [e1]
                        exact ⟨v, by rw [← d1]; congr 1; omega, by rw [← d2]; simp [Nat.add_assoc], d3, d4⟩
                      by_cases hroom : len + n ≤ cap
                      · have hcap0 : 0 < cap := by omega
                        have had := b1 hcap0
                        have hmul : (len + n) * i0.size ≤ cap * i0.size := Nat.mul_le_mul_right _ hroom
                        rw [Nat.add_mul] at hmul
                        have hrun := run_storeCells_at P (φ.blk id) (φ.base id + off + len * i0.size) et nv.toList 0 arr w a1 (by simp [← hnv]; omega) hone
                        simp only [Nat.add_zero] at hrun
                        have hap := run_append_in (ty := ty) (base := ad) (sLen := len) (sCap := cap) hu hxt hd' hi0 hlen (hfc w rfl) hroom
                          (fun ad' e' => by rw [had] at e'; injection e' with e'; subst e'; rw [add_none]; exact hrun) (fun e' => by rw [had] at e'; simp at e')
                        have hsp : φ.base id + off + len * i0.size + nv.toList.length ≤ arr.toList.length := by simp [← hnv, hln]; omega
                        have hrb := rebind (w' := w.setRow (φ.blk id) (arr.toList.take (φ.base id + off + len * i0.size) ++ nv.toList ++ arr.toList.drop (φ.base id + off + len * i0.size + nv.toList.length)).toArray)
                          (g' := g + 1) (cs' := (cs.drop off).take (len * i0.size) ++ l) (b := φ.blk id) (base := φ.base id + off) hok hg (by omega) (by simp) (fun k hk hne => setRow_other w _ k _ hne) (.inl rfl) rfl rfl rfl
                          (setRow_heap w _ arr _ et (0, 0) a1) (by
                            have := splice_len hsp
                            unfold splice at this
                            have hal : arr.toList.length = arr.size := Array.length_toList
                            rw [List.size_toArray, this, List.length_append, hol, hal]
                            omega) (by
                            intro i hi v hv
                            rw [List.length_append, hol] at hi
                            rw [List.getElem?_toArray] at hv
                            have hspl := splice_get hsp (φ.base id + off + i)
                            unfold splice at hspl
                            rw [hspl] at hv
                            by_cases c1 : i < len * i0.size
                            · rw [if_pos (by omega), Array.getElem?_toList] at hv
                              rw [List.getElem_append_left (by omega)]
                              obtain ⟨v', d1, d2, d3, d4⟩ := hoi i (by omega)
                              rw [d1] at hv
                              injection hv with hv
                              subst hv
                              exact ⟨d3, d4⟩
                            · have hln' : nv.toList.length = l.length := by simp [← hnv]
                              rw [if_neg (by omega), if_pos (by omega), Array.getElem?_toList] at hv
                              rw [List.getElem_append_right (by omega)]
                              exact hrep (i - ((cs.drop off).take (len * i0.size)).length) (by omega) v (by rw [← hv]; congr 1; omega))
                        have hsz' : (arr.toList.take (φ.base id + off + len * i0.size) ++ nv.toList ++ arr.toList.drop (φ.base id + off + len * i0.size + nv.toList.length)).toArray.size = arr.size := by
                          have := splice_len hsp
                          unfold splice at this
                          simpa using this
                        obtain ⟨r1, r2⟩ := hrb
                        refine ⟨_, _, _, hap, r1, r2, ?_⟩
                        refine .view _ _ _ _ _ _ _ hroom he (by rw [get_set, if_pos rfl]) (Nat.le_refl _) fun _ => ⟨fun _ => by rw [had]; simp [Env.at], fun et' esz' hs => ?_⟩
                        simp [AObj.sort] at hs
                        obtain ⟨rfl, rfl⟩ := hs
                        simp only [Env.at, if_true, hsz']
                        omega
                      · have hfo : (Builtin.firstCells i0.size len (.slice ad len cap)).run P w.drew = .ok ((List.range (len * i0.size)).map (fun j => arr.getD (φ.base id + off + j) undef)).toArray w.drew := by
                          by_cases hc : 0 < cap
                          · rw [b1 hc]
                            simp only [Builtin.firstCells]
                            refine run_loadCells w.drew _ _ _ fun j hj => ?_
                            obtain ⟨v, d1, d2, d3, d4⟩ := hoi j (by omega)
                            rw [add_none]
                            have : arr.getD (φ.base id + off + j) undef = v := by simp [Array.getD_eq_getD_getElem?, d1]
                            rw [this]
                            exact d2
                          · have hl0 : len = 0 := by omega
                            subst hl0
                            cases ad <;> simp [Builtin.firstCells, loadCells, loadCellsFrom]
                        obtain ⟨cap', arr', c1, c2, c3, c4⟩ := grown _ ((cs.drop off).take (len * i0.size)) len cap ad (by rw [hol]; simp) hol (fun i hi v hv => by
                          obtain ⟨v', d1, d2, d3, d4⟩ := hoi i hi
                          have e2 := (range_get hv).2
                          have : arr.getD (φ.base id + off + i) undef = v' := by simp [Array.getD_eq_getD_getElem?, d1]
                          rw [this] at e2
                          subst e2
                          exact ⟨d3, d4⟩) rfl hfo (by omega) hb hb2
                        have hmul : (len + n) * i0.size ≤ cap' * i0.size := Nat.mul_le_mul_right _ c1
                        rw [Nat.add_mul] at hmul
                        have hrb := rebind (w' := World.pushed w.drew (.cells arr' et)) (g' := g + 1) (cs' := (cs.drop off).take (len * i0.size) ++ l) (b := w.heap.size) (base := 0) hok hg (by omega)
                          (by simp [World.pushed]) (fun k hk hne => pushed_old w.drew _ k hk) (.inr (Nat.le_refl _)) rfl rfl rfl (pushed_new w.drew _) (by rw [List.length_append, hol, hln, c3]; omega)
                          (fun i hi v hv => c4 i hi v (by simpa using hv))
                        obtain ⟨r1, r2⟩ := hrb
                        refine ⟨_, _, _, c2, r1, r2, ?_⟩
                        refine .view _ _ _ _ _ _ _ c1 ⟨_, _, rfl⟩ (by rw [get_set, if_pos rfl]) (Nat.le_refl _) fun _ => ⟨fun _ => by simp [Env.at], fun et' esz' hs => ?_⟩
                        simp [AObj.sort] at hs
                        obtain ⟨rfl, rfl⟩ := hs
                        simp [Env.at, c3]
                    · simp at h
              · simp at h
            · simp at h
          · simp at h
        · simp at h
      · simp at h
  · simp at h
end
end Go.Sim
