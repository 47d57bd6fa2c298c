/- A part of the proof: values and stores in plain Lean, and the rules by which a walk is taken. -/
import Derived.Test.YtihdifmachfdbaaSimAI
set_option autoImplicit false
set_option linter.unusedSimpArgs false
set_option linter.unusedVariables false
namespace Go.Sim
open Go

/-! ### calls that read and write objects -/
/-- The call's behaviour on a store of its own. -/
def SC (P : Program) (g : FuncId) (avs : List SV) (L : List SObj) (r : SV) (L' : List SObj) : Prop := ACall P g (avs.map SV.out) (outS L) fun r' S' => r' = r.out ∧ S' = outS L'

def RetS (n0 : Nat) (ts : List Nat) (r : SV) (L' : List SObj) : Exit → (Nat → TV) → Store → Prop
  | .normal, T, S | .ret, T, S => ∃ tm, Goes n0 T S (outT (look tm)) (outS L') ∧ (packS (ts.map (look tm))).out = r.out
  | _, _, _ => False

section
variable {P : Program} {n0 N : Nat} {V : Nat → SV} {L L' : List SObj}
theorem ret_s {ts : List Nat} {r : SV} (tm : List (Nat × SV)) (hg : Goes n0 (outT V) (outS L) (outT (look tm)) (outS L')) (hr : (packS (ts.map (look tm))).out = r.out) : RetS n0 ts r L' .ret (outT V) (outS L) := ⟨tm, hg, hr⟩
theorem ret_sn {ts : List Nat} {r : SV} (tm : List (Nat × SV)) (hg : Goes n0 (outT V) (outS L) (outT (look tm)) (outS L')) (hr : (packS (ts.map (look tm))).out = r.out) : RetS n0 ts r L' .normal (outT V) (outS L) := ⟨tm, hg, hr⟩

theorem fn_s {g : FuncId} {fn : Func} {c : Code} {avs : List SV} {r : SV} (ts : List Nat) (hl : L.length = n0) (hf : P.funcs[g]? = some fn) (hN : fn.ntmps = N) (hb : fn.body = some c) (hr : resTmps fn.results.toList = some ts) (hn : Nat.ble avs.length N = true)
    (h : awpB P n0 N c (RetS n0 ts r L') (outT (look (enum 0 avs))) (outS L)) : SC P g avs L r L' := by
  refine acall_introB (n0 := n0) hf hN hb (by simpa using Nat.le_of_ble_eq_true hn) (fun id o h => ?_) ?_
  · simp only [outS] at h
    rcases Nat.lt_or_ge id L.length with h' | h'
    · omega
    · rw [List.getElem?_eq_none h'] at h; cases h
  · rw [enum_arg] at h
    refine awpB_mono h ?_
    intro e T S hq
    have key : (∃ tm, Goes n0 T S (outT (look tm)) (outS L') ∧ (packS (ts.map (look tm))).out = r.out) →
        ∃ T'' S'' vs, Goes n0 T S T'' S'' ∧ resAll P T'' S'' fn.results.toList = some vs ∧ (pack vs = r.out ∧ S'' = outS L') := by
      rintro ⟨tm, hg, hr'⟩
      refine ⟨_, _, _, hg, resTmps_ok hr, ?_, rfl⟩
      rw [packS_out, hr']
    cases e with
    | normal => exact ⟨.inl rfl, key hq⟩
    | ret => exact ⟨.inr rfl, key hq⟩
    | _ => exact hq.elim

/-! the frame -/
def atL (ρ : List Nat) (i : Nat) : Nat := ρ.getD i 0
def renS1 (ρ : List Nat) : SV → SV
  | .ptr id g off => .ptr (atL ρ id) g off
  | .view id g off len => .view (atL ρ id) g off len
  | v => v
def renS (ρ : List Nat) : SV → SV
  | .tup l => .tup (l.map (renS1 ρ))
  | v => renS1 ρ v
def okS1 (n : Nat) : SV → Bool
  | .ptr id _ _ => Nat.blt id n
  | .view id _ _ _ => Nat.blt id n
  | v => closedS v
def okS (n : Nat) : SV → Bool
  | .tup l => l.all (okS1 n)
  | v => okS1 n v
def okO : SObj → Bool
  | .obj _ _ _ cs => closedA cs
  | .grow _ _ _ => true
  | .gone => true
  | .map _ _ => false
def setL : List Nat → List SObj → List SObj → List SObj
  | i :: ρ, o :: L1, L => setL ρ L1 (L.set i o)
  | _, _, L => L
def subL : List Nat → List SObj → List SObj → Prop
  | [], [], _ => True
  | i :: ρ, o :: L0, L => (L.getD i .gone).out = o.out ∧ subL ρ L0 L
  | _, _, _ => False
def newB : List Nat → Bool
  | [] => true
  | i :: l => l.all (fun j => !Nat.beq i j) && newB l

theorem okS1_ok {ρ : List Nat} {n : Nat} {v : SV} (h : okS1 n v = true) : Plain n v.out ∧ (renS1 ρ v).out = renT (atL ρ) v.out := by
  have key : closedS v = true → renS1 ρ v = v → Plain n v.out ∧ (renS1 ρ v).out = renT (atL ρ) v.out := fun h1 h2 => by
    have hc : Closed v.out := closedL_ok [v] (by simp [closedL, h1]) _ (by simp [SV.outL, SV.out])
    exact ⟨.closed _ hc, by rw [h2, renT_closed hc]⟩
  cases v with
  | ptr id g off => exact ⟨.ptr _ _ _ (Nat.le_of_ble_eq_true h), by simp [renS1, SV.out, SV.cells, renT]⟩
  | view id g off len => exact ⟨.view _ _ _ _ (Nat.le_of_ble_eq_true h), by simp [renS1, SV.out, SV.cells, renT]⟩
  | _ => exact key h rfl
theorem okS_ok {ρ : List Nat} {n : Nat} {v : SV} (h : okS n v = true) : Plain n v.out ∧ (renS ρ v).out = renT (atL ρ) v.out := by
  cases v with
  | tup l =>
    simp only [okS, List.all_eq_true] at h
    refine ⟨?_, ?_⟩
    · show Plain n (.tup (SV.outL l))
      rw [outL_map]
      refine .tup _ fun u hu => ?_
      obtain ⟨v, hv, rfl⟩ := List.mem_map.1 hu
      exact (okS1_ok (ρ := ρ) (h v hv)).1
    · show TV.tup (SV.outL (l.map (renS1 ρ))) = renT (atL ρ) (.tup (SV.outL l))
      rw [renT, renTL_map, outL_map, outL_map, List.map_map, List.map_map]
      congr 1
      exact List.map_congr_left fun v hv => (okS1_ok (h v hv)).2
  | _ => exact okS1_ok h
theorem okO_ok {o : SObj} {a : AObj} (ρ : Nat → Nat) (n : Nat) (h : okO o = true) (ha : o.out = some a) : renA ρ a = a ∧ PlainO n a := by
  cases o with
  | obj g et esz cs =>
    simp only [SObj.out] at ha
    injection ha with ha
    subst ha
    have hc := closedA_ok cs h
    refine ⟨?_, fun v hv => .closed _ (hc v hv)⟩
    simp only [renA]
    congr 1
    have e : (SV.cellsL cs).map (renT ρ) = (SV.cellsL cs).map id := List.map_congr_left fun v hv => renT_closed (hc v hv)
    simpa using e
  | grow et t l =>
    cases hl : l.length == 0 <;> simp [SObj.out, hl] at ha
    subst ha
    refine ⟨?_, fun v hv => ?_⟩
    · simp only [renA, List.map_map]
      congr 1
    · obtain ⟨c, _, rfl⟩ := List.mem_map.1 hv
      exact .closed _ (.c c)
  | map es c => cases h
  | gone => simp [SObj.out] at ha
theorem outS_get {i : Nat} : (outS L).get i = (L.getD i .gone).out := by
  simp only [outS, List.getD_eq_getElem?_getD]
  cases h : L[i]? with
  | none => simp [SObj.out]
  | some o => simp
theorem setL_len : ∀ (ρ : List Nat) (L1 L : List SObj), (setL ρ L1 L).length = L.length
  | [], _, L => by simp [setL]
  | i :: ρ, [], L => by simp [setL]
  | i :: ρ, o :: L1, L => by rw [setL, setL_len ρ L1]; simp
theorem setL_out : ∀ (ρ : List Nat) (L1 L : List SObj) (j : Nat), j ∉ ρ → (setL ρ L1 L).getD j .gone = L.getD j .gone
  | [], _, L, j, _ => by simp [setL]
  | i :: ρ, [], L, j, _ => by simp [setL]
  | i :: ρ, o :: L1, L, j, h => by
    simp only [List.mem_cons, not_or] at h
    rw [setL, setL_out ρ L1 _ j h.2]
    simp only [List.getD_eq_getElem?_getD]
    rw [List.getElem?_set_ne (by omega)]
theorem newB_ok : ∀ {ρ : List Nat}, newB ρ = true → ρ.Nodup
  | [], _ => by simp
  | i :: ρ, h => by
    simp only [newB, Bool.and_eq_true, List.all_eq_true, Bool.not_eq_true'] at h
    refine List.nodup_cons.2 ⟨fun hm => ?_, newB_ok h.2⟩
    have := h.1 i hm
    simp at this
theorem setL_in : ∀ (ρ : List Nat) (L1 L : List SObj) (i : Nat), ρ.Nodup → L1.length = ρ.length → (∀ j ∈ ρ, j < L.length) → i < ρ.length → (setL ρ L1 L).getD (atL ρ i) .gone = L1.getD i .gone
  | [], _, L, i, _, _, _, h => by simp at h
  | k :: ρ, [], L, i, _, h, _, _ => by simp at h
  | k :: ρ, o :: L1, L, 0, hn, hl, hb, h => by
    have := List.nodup_cons.1 hn
    simp only [atL, List.getD_cons_zero]
    rw [setL, setL_out ρ L1 _ k this.1]
    have hk := hb k (by simp)
    simp [List.getD_eq_getElem?_getD, hk]
  | k :: ρ, o :: L1, L, i + 1, hn, hl, hb, h => by
    have := List.nodup_cons.1 hn
    rw [setL]
    have := setL_in ρ L1 (L.set k o) i this.2 (by simpa using hl) (fun j hj => by simpa using hb j (by simp [hj])) (by simpa using h)
    simpa [atL] using this
theorem subL_get : ∀ {ρ : List Nat} {L0 L : List SObj}, subL ρ L0 L → L0.length = ρ.length ∧ ∀ i, i < ρ.length → (L.getD (atL ρ i) .gone).out = (L0.getD i .gone).out
  | [], [], L, _ => ⟨rfl, fun i h => by simp at h⟩
  | [], _ :: _, L, h => by cases h
  | i :: ρ, [], L, h => by cases h
  | k :: ρ, o :: L0, L, h => by
    obtain ⟨h1, h2⟩ := subL_get h.2
    refine ⟨by simp [h1], fun i hi => ?_⟩
    cases i with
    | zero => simpa [atL] using h.1
    | succ i => simpa [atL] using h2 i (by simpa using hi)

theorem acall_sc {g : FuncId} {avs favs favs' : List SV} {r r' : SV} {L0 L1 : List SObj} (ρ : List Nat) (hA : SC P g favs L0 r L1) (hn1 : Nat.beq L1.length ρ.length = true) (hb : ρ.all (fun i => Nat.blt i L.length) = true) (hd : newB ρ = true)
    (h0 : L0.all okO = true) (h1 : L1.all okO = true) (ha : favs.all (okS ρ.length) = true) (hr : okS ρ.length r = true) (hs : subL ρ L0 L)
    (hf : forceL (favs.map (renS ρ)) some = some favs') (hw : ArgsW avs favs') (hr' : forceV (renS ρ r) some = some r') (hL : forceO (setL ρ L1 L) some = some L') :
    ACall P g (avs.map SV.out) (outS L) fun r2 S' => r2 = r'.out ∧ S' = outS L' := by
  rw [forceL_eq] at hf
  rw [forceV_eq] at hr'
  rw [forceO_eq] at hL
  injection hf with hf
  injection hr' with hr'
  injection hL with hL
  subst hf hr' hL
  refine acall_argw hw ?_
  obtain ⟨hl0, hs2⟩ := subL_get hs
  have hn1' := Nat.eq_of_beq_eq_true hn1
  have hb' : ∀ j ∈ ρ, j < L.length := fun j hj => Nat.le_of_ble_eq_true (List.all_eq_true.1 hb j hj)
  have hnd := newB_ok hd
  have hat : ∀ i, i < ρ.length → atL ρ i = ρ.getD i 0 ∧ atL ρ i ∈ ρ := fun i hi => ⟨rfl, by simp [atL, List.getD_eq_getElem?_getD, hi]⟩
  have hga : ∀ (L' : List SObj), L'.all okO = true → ∀ i, okO (L'.getD i .gone) = true := fun L' h i => by
    rw [List.getD_eq_getElem?_getD]
    cases hi : L'[i]? with
    | none => rfl
    | some o => exact List.all_eq_true.1 h o (List.mem_of_getElem? hi)
  have hren : ∀ (L' : List SObj), L'.all okO = true → ∀ i, ((outS L').get i).map (renA (atL ρ)) = (outS L').get i := fun L' h i => by
    rw [outS_get]
    cases ho : (L'.getD i .gone).out with
    | none => rfl
    | some a => simp [(okO_ok (atL ρ) 0 (hga L' h i) ho).1]
  have hpl : ∀ (L' : List SObj), L'.all okO = true → ∀ i o, (outS L').get i = some o → PlainO ρ.length o := fun L' h i o ho => by
    rw [outS_get] at ho
    exact (okO_ok (atL ρ) _ (hga L' h i) ho).2
  have hpart : Part ρ.length (atL ρ) (outS L0) (outS L) := by
    refine ⟨hl0, fun i hi => ?_, fun i j hi hj e => ?_, fun i hi => hb' _ (hat i hi).2, fun i hi => ?_, hpl L0 h0⟩
    · rw [hren L0 h0, outS_get, outS_get]
      exact hs2 i hi
    · simp only [atL, List.getD_eq_getElem?_getD, List.getElem?_eq_getElem hi, List.getElem?_eq_getElem hj, Option.getD_some] at e
      exact (List.getElem_inj hnd).1 e
    · rw [outS_get, List.getD_eq_getElem?_getD, List.getElem?_eq_none (by omega)]
      rfl
  have hargs : (favs.map (renS ρ)).map SV.out = (favs.map SV.out).map (renT (atL ρ)) := by
    simp only [List.map_map]
    refine List.map_congr_left fun v hv => ?_
    exact (okS_ok (List.all_eq_true.1 ha v hv)).2
  rw [hargs]
  have := acall_frame (S' := outS (setL ρ L1 L)) hpart (fun v hv => by
    obtain ⟨u, hu, rfl⟩ := List.mem_map.1 hv
    exact (okS_ok (ρ := ρ) (List.all_eq_true.1 ha u hu)).1) hA (okS_ok (ρ := ρ) hr).1 hn1' (hpl L1 h1)
    (fun i hi => by rw [hren L1 h1, outS_get, outS_get, setL_in ρ L1 L i hnd hn1' hb' hi])
    (fun j hj => by rw [outS_get, outS_get, setL_out ρ L1 L j fun hm => by
      obtain ⟨i, hi, e⟩ := List.getElem_of_mem hm
      exact hj i hi (by simp [atL, List.getD_eq_getElem?_getD, hi, e])])
    (by simp [outS, setL_len])
  rw [← (okS_ok (ρ := ρ) hr).2] at this
  exact this

theorem sca {K : (Nat → TV) → Store → Prop} {ops : Array Oper} {o : Oper} {os : List Oper} {d : Tmp} {g : FuncId} {avs favs favs' : List SV} {r r' : SV} {L0 L1 : List SObj} (ρ : List Nat) (hA : SC P g favs L0 r L1) (hg : o.guard = none) (hd : o.dst = some d) (hN : dstOk N o = true)
    (hc : callS V o.op = some (g, avs)) (hfn : isFunc P g = true) (hn1 : Nat.beq L1.length ρ.length = true) (hb : ρ.all (fun i => Nat.blt i L.length) = true) (hnd : newB ρ = true)
    (h0 : L0.all okO = true) (h1 : L1.all okO = true) (ha : favs.all (okS ρ.length) = true) (hr : okS ρ.length r = true)
    (hf : forceL (favs.map (renS ρ)) some = some favs') (hr' : forceV (renS ρ r) some = some r') (hL : forceO (setL ρ L1 L) some = some L') (hs : subL ρ L0 L) (hw : ArgsW avs favs')
    (hk : opsWp P N ops os K (outT (putS V (some d) r')) (outS L')) : opsWp P N ops (o :: os) K (outT V) (outS L) := by
  refine ops_acall hg (callS_prim hc _ _) (callS_ok hc) hN hfn (acall_sc ρ hA hn1 hb hnd h0 h1 ha hr hs hf hw hr' hL) ?_
  rintro _ _ ⟨rfl, rfl⟩
  rw [outT_put, hd]
  exact hk
/-- A call that only reads, in a drawing region, behind a guard. -/
theorem sdag {b : Bool} (hbf : b = false) {K : (Nat → TV) → Store → Prop} {ops : Array Oper} {o : Oper} {os : List Oper} {d : Tmp} {j : Nat} {want c : Bool} {t : Tmp} {g : FuncId} {avs favs favs' : List SV} {r r' : SV} {L0 : List SObj} {q : Prop} (ρ : List Nat) (hA : c = true → SC P g favs L0 r L0) (hg : o.guard = some (j, want)) (ht : (ops[j]?).bind (·.dst) = some t)
    (hcd : guardS want (V t) = some c) (hd : o.dst = some d) (hc : callS (stripV V) o.op = some (g, avs)) (hfn : isFunc P g = true) (hn1 : Nat.beq L0.length ρ.length = true) (hb : ρ.all (fun i => Nat.blt i L.length) = true) (hnd : newB ρ = true)
    (h0 : L0.all okO = true) (ha : favs.all (okS ρ.length) = true) (hr : okS ρ.length r = true)
    (hf : forceL (favs.map (renS ρ)) some = some favs') (hr' : forceV (renS ρ r) some = some r') (hL : outS (setL ρ L0 L) = outS L) (hs : subL ρ L0 L) (hw : ArgsW avs favs') (hcv : condsV V o.op = some q) (hq : c = true → q)
    (hk : opsD P b ops os K (outT (putS V (some d) (.opt c r'))) (outS L)) : opsD P b ops (o :: os) K (outT V) (outS L) := by
  subst hbf
  obtain ⟨x, hx, hiff⟩ := guardS_ok ht hcd
  simp only [opsD, hg, hx]
  rw [← outT_put] at hk
  cases c with
  | true =>
    rw [if_pos (hiff.2 rfl)]
    unfold stepD
    rw [callS_prim hc]
    have e := callOf_congr (T := outT V) (T' := outT (stripV V)) o.op fun x hx => condsV_ok hcv (hq rfl) x (by simpa using hx)
    have hac := acall_sc (L' := setL ρ L0 L) ρ (hA rfl) hn1 hb hnd h0 h0 ha hr hs hf hw hr' (by rw [forceO_eq])
    rw [hL] at hac
    exact ⟨g, _, _, e.trans (callS_ok hc), hfn, .inr ⟨rfl, hac⟩, by rw [hd]; exact hk⟩
  | false =>
    rw [if_neg (fun e => by simpa using hiff.1 e), hd]
    exact hk
/-- The same without a guard. -/
theorem sda {b : Bool} (hbf : b = false) {K : (Nat → TV) → Store → Prop} {ops : Array Oper} {o : Oper} {os : List Oper} {d : Tmp} {g : FuncId} {avs favs favs' : List SV} {r r' : SV} {L0 : List SObj} (ρ : List Nat) (hA : SC P g favs L0 r L0) (hg : o.guard = none) (hd : o.dst = some d) (hc : callS V o.op = some (g, avs)) (hfn : isFunc P g = true)
    (hn1 : Nat.beq L0.length ρ.length = true) (hb : ρ.all (fun i => Nat.blt i L.length) = true) (hnd : newB ρ = true) (h0 : L0.all okO = true) (ha : favs.all (okS ρ.length) = true) (hr : okS ρ.length r = true)
    (hf : forceL (favs.map (renS ρ)) some = some favs') (hr' : forceV (renS ρ r) some = some r') (hL : outS (setL ρ L0 L) = outS L) (hs : subL ρ L0 L) (hw : ArgsW avs favs')
    (hk : opsD P b ops os K (outT (putS V (some d) r')) (outS L)) : opsD P b ops (o :: os) K (outT V) (outS L) := by
  subst hbf
  have hac := acall_sc (L' := setL ρ L0 L) ρ hA hn1 hb hnd h0 h0 ha hr hs hf hw hr' (by rw [forceO_eq])
  rw [hL] at hac
  refine opd_callS hg (callS_prim hc _ _) (callS_ok hc) hfn hac ?_
  rw [outT_put, hd]
  exact hk
end
end Go.Sim
