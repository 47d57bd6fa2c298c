/- A part of the proof: values and stores in plain Lean, and the rules by which a walk is taken. -/
import Derived.Test.YtihdifmachfdbaaSimAF
set_option autoImplicit false
set_option linter.unusedSimpArgs false
set_option linter.unusedVariables false
namespace Go.Sim
open Go

/-! ### slices written down, as values that stay as they are -/
section
variable {P : Program} {N : Nat} {F : Nat → Prop} {φ : Env} {T : Nat → TV} {S : Store} {a : Act} {w : World} {M : Nat → Prop} {tab : Tab}

/-- A new block that nobody will write. -/
theorem closed_new (hok : StoreOK F φ S w) (et : TypeId) (len : Nat) (cs : List CV) (arr : Array Value) (hl : cs.length ≤ arr.size) (h : ∀ i (hi : i < cs.length) v, arr[i]? = some v → TRep w (Mut F φ S) φ S (.c cs[i]) v) :
    StoreOK F φ S (World.pushed w (.cells arr et)) ∧ Ext φ S w φ S (World.pushed w (.cells arr et)) ∧ TRep (World.pushed w (.cells arr et)) (Mut F φ S) φ S (.c (.sl len cs)) (.slice (some ⟨w.heap.size, 0, none⟩) len len) := by
  obtain ⟨h1, h2⟩ := ok_more (w1 := World.pushed w (.cells arr et)) hok (by simp [World.pushed]) (fun b hb => pushed_old w _ b hb) rfl rfl rfl
  refine ⟨h1, h2, .c _ _ (.sl len cs _ _ _ (fun j => arr.getD j undef) (Nat.le_refl _) (fun j hj => ?_) (fun j hj hb => ?_) (fun j hj => ?_))⟩
  · obtain ⟨v, hv⟩ := getElem?_of_size (arr := arr) (i := j) (by omega)
    have hp := pushed_new w (.cells arr et)
    simp [World.cell?, hp, Array.getD_eq_getD_getElem?, hv]
  · rcases hb with hb | ⟨id, o, g1, g2⟩
    · have := hok.old _ hb
      omega
    · have := hok.obj id o g1
      have hlt : φ.blk id < w.heap.size := by
        cases o with
        | cells g et esz cs => obtain ⟨arr, h1, _⟩ := this; exact (Array.getElem?_eq_some_iff.1 h1).1
        | map es c => obtain ⟨arr, h1, _⟩ := this; exact (Array.getElem?_eq_some_iff.1 h1).1
      omega
  · obtain ⟨v, hv⟩ := getElem?_of_size (arr := arr) (i := j) (by omega)
    have e : arr.getD j undef = v := by simp [Array.getD_eq_getD_getElem?, hv]
    rw [e]
    have := (h j hj v hv).ext (F := F) h2
    cases this with
    | c _ _ h => exact h

theorem tvBuildC_ok {t : TypeId} {len : Nat} {parts : List (Nat × TV)} {vals : Array (Nat × Value)} {S' : Store} {cs : List CV} {v : TV} {et : TypeId} {esz : Nat} (hok : StoreOK F φ S w) (h : tvBuildSlice P S t len parts = some (v, S')) (hS : S' = S.push (.cells 0 et esz (cs.map .c)))
    (hp : parts.length = vals.toList.length ∧ ∀ k (h : k < parts.length) p, vals.toList[k]? = some p → parts[k].1 = p.1 ∧ TRep w (Mut F φ S) φ S parts[k].2 p.2) :
    ∃ x w', (Instr.buildSlice t len vals).run P w = .ok x w' ∧ StoreOK F φ S w' ∧ Ext φ S w φ S w' ∧ TRep w' (Mut F φ S) φ S (.c (.sl len cs)) x := by
  unfold tvBuildSlice at h
  split at h
  · rename_i e hu
    split at h
    · rename_i sz zs hsz hzs
      split at h
      · rename_i hc
        obtain ⟨hz0, hlim⟩ := hc
        split at h
        · rename_i cs0 hf
          simp at h
          obtain ⟨rfl, h⟩ := h
          rw [hS] at h
          have hget := congrArg (fun s : Store => s.get S.next) h
          simp only [get_push, if_true] at hget
          injection hget with hget
          injection hget with _ h1 h2 h3
          subst h1 h2 h3
          obtain ⟨z, hr, hzl, hzc⟩ := zeroCs_ok (P := P) (w := w) (M := Mut F φ S) hzs
          obtain ⟨arr', e1, e2, e3, e4⟩ := tvFill_ok _ parts vals.toList (zrow zs (len * sz)) (cs.map .c) ((Array.range (len * sz)).map (z.cells[· % z.cells.size]!)) hp (by rw [zrow_len]; simp)
            (zrow_rep hzl hzc hz0 (Nat.le_refl _)) hf
          simp at e2
          obtain ⟨b1, b2, b3⟩ := closed_new (w := w) hok e len cs arr' (by simpa using Nat.le_of_eq e3) (fun i hi v hv => by
            have := (e4 i (by simpa using hi) v hv).2
            simpa using this)
          refine ⟨.slice (some ⟨w.heap.size, 0, none⟩) len len, _, ?_, b1, b2, b3⟩
          unfold Instr.buildSlice
          simp only [Sem.run_bind, run_underlying hu, Result.andThen_ok, run_szOf hsz]
          have hno : ¬ (len * sz > 2 ^ 24) := by omega
          simp only [if_neg hno]
          by_cases h0 : len * sz = 0
          · have e0 : (Array.range (len * sz)).map (z.cells[· % z.cells.size]!) = (Array.range (len * sz)).map ((#[] : Array Value)[· % 0]!) := by rw [h0]; apply Array.ext <;> simp
            rw [e0] at e1
            simp only [h0, if_true, Sem.run_bind, Sem.run_pure, Result.andThen_ok]
            simp only [h0] at e1
            simp only [Array.size_empty]
            rw [e1]
            simp only [Sem.run_bind, newRow_run, Result.andThen_ok, Sem.run_pure]
          · simp only [h0, if_false, Sem.run_bind, hr, Result.andThen_ok, Sem.run_pure]
            rw [e1]
            simp only [Sem.run_bind, newRow_run, Result.andThen_ok, Sem.run_pure]
        · simp at h
      · simp at h
    · simp at h
  · simp at h

def svRowC (tab : Tab) (t : TypeId) (n : Nat) (parts : List (Nat × SV)) : Option SV := match kindOf tab t with
  | some (.slice e) => match getT tab e with
    | some ti => match Nat.beq parts.length n, Nat.ble 1 ti.sz, Nat.ble (n * ti.sz) 16777216, takeC ti.zero ti.sz with
      | true, true, true, some _ => match tyOf tab 6 e with
        | some ty => match Nat.beq ty.size ti.sz, rowOf ty 0 parts with
          | true, some l => some (.row ty l)
          | _, _ => none
        | none => none
      | _, _, _, _ => none
    | none => none
  | _ => none

def rowF (tab : Tab) (V : Nat → SV) : Op → Option SV
  | .buildSlice t n parts => match svRowC tab t n (parts.toList.map fun p => (p.1, evS V p.2)) with
    | some v => forceV v some
    | none => none
  | _ => none

theorem rowF_ok (hT : TabOK P tab) {V : Nat → SV} {L : List SObj} {o : Oper} {v : SV} (hN : dstOk N o = true) (h : rowF tab V o.op = some v) {K : (Nat → TV) → Store → Prop} (hK : K (put (outT V) o.dst v.out) (outS L)) : awpOp P N o K (outT V) (outS L) := by
  unfold rowF at h
  split at h
  · rename_i t n parts ho
    split at h
    · rename_i v' hv
      rw [forceV_eq] at h
      injection h with h
      subst h
      unfold svRowC at hv
      split at hv
      · rename_i e hk
        split at hv
        · rename_i ti hti
          split at hv
          · rename_i zz hn h1 hlim htk
            split at hv
            · rename_i ty hty
              split at hv
              · rename_i l hb hr
                injection hv with hv
                subst hv
                have hs : svBuildSlice tab L t n (parts.toList.map fun p => (p.1, evS V p.2)) = some (True, .view L.length 0 0 n, L ++ [.obj 0 e ti.sz [.lst ty l]]) := by
                  unfold svBuildSlice
                  simp only [hk, hti, hn, h1, hlim, htk, hty, hb, hr]
                have ht := svBuildSlice_ok hT hs
                rw [← partsEv] at ht
                have hpush : outS (L ++ [.obj 0 e ti.sz [.lst ty l]]) = (outS L).push (.cells 0 e ti.sz ((encs ty l).map .c)) := by
                  rw [← outS_push L (.obj 0 e ti.sz [.lst ty l]) (a := .cells 0 e ti.sz ((encs ty l).map .c)) (by simp [SObj.out, SV.cellsL, SV.cells])]
                have hlen : l.length = n := by
                  rw [rowOf_len _ _ _ hr]
                  exact Nat.eq_of_beq_eq_true hn
                refine awpOp_value hN (fun F φ a w hs => ?_) hK
                obtain ⟨x, w', r1, r2, r3, r4⟩ := tvBuildC_ok (P := P) hs.store ht hpush (parts_ok hs parts)
                refine ⟨x, w', φ, by simp only [execOp, ho]; rw [Sem.run_bind, r1]; rfl, r2, r3, ?_⟩
                simp only [SV.out, SV.cells, List.headD_cons, hlen]
                exact r4
              · cases hv
            · cases hv
          · cases hv
        · cases hv
      · cases hv
    · cases h
  · cases h

theorem stb (hT : TabOK P tab) {K : (Nat → TV) → Store → Prop} {V : Nat → SV} {L : List SObj} {ops : Array Oper} {o : Oper} {os : List Oper} {v : SV} {d : Tmp} (hg : o.guard = none) (hd : o.dst = some d) (hN : dstOk N o = true) (h : rowF tab V o.op = some v)
    (hk : opsWp P N ops os K (outT (putS V (some d) v)) (outS L)) : opsWp P N ops (o :: os) K (outT V) (outS L) := by
  simp only [opsWp, hg]
  exact .inr (rowF_ok hT hN h (by rw [outT_put, hd]; exact hk))
theorem ev_all {V V' : Nat → SV} (L : List SObj) {op : Op} (h : ∀ x ∈ op.operands.toList, ev (outT V) x = ev (outT V') x) {o : Oper} (ho : o.op = op) {K : (Nat → TV) → Store → Prop} {v : SV} (hT : TabOK P tab) (hN : dstOk N o = true) (hr : rowF tab V' op = some v)
    (hK : K (put (outT V) o.dst v.out) (outS L)) : awpOp P N o K (outT V) (outS L) := by
  -- the same parts, said by other slots
  unfold rowF at hr
  split at hr
  · rename_i t n parts
    split at hr
    · rename_i v' hv
      rw [forceV_eq] at hr
      injection hr with hr
      subst hr
      have hp : evParts (outT V) parts = evParts (outT V') parts := List.map_congr_left fun p hm => by
        rw [h p.2 (by simp [Op.operands]; exact ⟨p.1, by simpa using hm⟩)]
      unfold svRowC at hv
      split at hv
      · rename_i e hk
        split at hv
        · rename_i ti hti
          split at hv
          · rename_i zz hn h1 hlim htk
            split at hv
            · rename_i ty hty
              split at hv
              · rename_i l hb hrr
                injection hv with hv
                subst hv
                have hs : svBuildSlice tab L t n (parts.toList.map fun p => (p.1, evS V' p.2)) = some (True, .view L.length 0 0 n, L ++ [.obj 0 e ti.sz [.lst ty l]]) := by
                  unfold svBuildSlice
                  simp only [hk, hti, hn, h1, hlim, htk, hty, hb, hrr]
                have ht := svBuildSlice_ok hT hs
                rw [← partsEv, ← hp] at ht
                have hpush : outS (L ++ [.obj 0 e ti.sz [.lst ty l]]) = (outS L).push (.cells 0 e ti.sz ((encs ty l).map .c)) := by
                  rw [← outS_push L (.obj 0 e ti.sz [.lst ty l]) (a := .cells 0 e ti.sz ((encs ty l).map .c)) (by simp [SObj.out, SV.cellsL, SV.cells])]
                have hlen : l.length = n := by
                  rw [rowOf_len _ _ _ hrr]
                  exact Nat.eq_of_beq_eq_true hn
                refine awpOp_value hN (fun F φ a w hs => ?_) hK
                obtain ⟨x, w', r1, r2, r3, r4⟩ := tvBuildC_ok (P := P) hs.store ht hpush (parts_ok hs parts)
                refine ⟨x, w', φ, by simp only [execOp, ho]; rw [Sem.run_bind, r1]; rfl, r2, r3, ?_⟩
                simp only [SV.out, SV.cells, List.headD_cons, hlen]
                exact r4
              · cases hv
            · cases hv
          · cases hv
        · cases hv
      · cases hv
    · cases hr
  · cases hr
theorem stgb (hT : TabOK P tab) {K : (Nat → TV) → Store → Prop} {V : Nat → SV} {L : List SObj} {ops : Array Oper} {o : Oper} {os : List Oper} {v : SV} {d : Tmp} {j : Nat} {want c : Bool} {t : Tmp} (hg : o.guard = some (j, want)) (ht : (ops[j]?).bind (·.dst) = some t) (hcd : guardS want (V t) = some c) (hd : o.dst = some d)
    (hN : dstOk N o = true) (h : rowF tab (stripV V) o.op = some v) {q : Prop} (hcv : condsV V o.op = some q) (hq : c = true → q) (hk : opsWp P N ops os K (outT (putS V (some d) (.opt c v))) (outS L)) : opsWp P N ops (o :: os) K (outT V) (outS L) := by
  obtain ⟨x, hx, hiff⟩ := guardS_ok ht hcd
  simp only [opsWp, hg, hx]
  rw [← outT_put] at hk
  cases c with
  | true =>
    rw [if_pos (hiff.2 rfl)]
    exact .inr (ev_all L (condsV_ok hcv (hq rfl)) rfl hT hN h (by rw [hd]; exact hk))
  | false =>
    rw [if_neg (fun e => by simpa using hiff.1 e), hd]
    exact hk
end
end Go.Sim
