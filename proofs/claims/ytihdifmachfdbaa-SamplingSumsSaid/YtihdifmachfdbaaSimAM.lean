/- A part of the proof: values and stores in plain Lean, and the rules by which a walk is taken. -/
import Derived.Test.YtihdifmachfdbaaSimAL
set_option autoImplicit false
set_option linter.unusedSimpArgs false
set_option linter.unusedVariables false
namespace Go.Sim
open Go

section
variable {P : Program} {tab : Tab} {n0 N : Nat} {V : Nat → SV} {L L' : List SObj} {Q : Exit → (Nat → TV) → Store → Prop}

/-! ### copy, by symbols: a whole source into the first cells of a list -/
def svCopy (tab : Tab) (L : List SObj) (t : TypeId) (s x : SV) : Option (Prop × SV × List SObj) := match kindOf tab t with
  | some (.slice e) => match getT tab e, tyOf tab 6 e with
    | some ti, some ty => match Nat.beq ty.size ti.sz, srcS L ty x with
      | true, some (ob, l') => match s with
        | .view id g 0 len => match L[id]? with
          | some (.obj g' e' esz [.lst _ l]) => match castR ty l with
            | some l => some (ob ∧ g = g' ∧ len ≤ l.length ∧ l'.length ≤ len, .int .i64 (l'.length : Nat), L.set id (.obj g' e' esz [.lst ty (l' ++ l.drop l'.length)]))
            | none => none
          | _ => none
        | _ => none
      | _, _ => none
    | _, _ => none
  | _ => none

theorem svCopy_ok (hT : TabOK P tab) {t : TypeId} {s x v : SV} {ob : Prop} (h : svCopy tab L t s x = some (ob, v, L')) (hob : ob) : tvCopy P (outS L) t s.out x.out = some (v.out, outS L') := by
  unfold svCopy at h
  split at h
  · rename_i e hk
    obtain ⟨ti0, g1, g2⟩ := kind_get hk
    have hu := tab_slice hT g1 g2
    split at h
    · rename_i ti ty hti hty
      have hsz := tab_sz hT hti
      split at h
      · rename_i ob1 l' hb hsrc
        have hb := Nat.eq_of_beq_eq_true hb
        split at h
        · rename_i id g len
          split at h
          · rename_i g' e' esz t' l hL
            split at h
            · rename_i l2 hc
              cases castR_ok hc
              injection h with h
              simp only [Prod.mk.injEq] at h
              obtain ⟨rfl, rfl, rfl⟩ := h
              obtain ⟨o1, rfl, o3, o4⟩ := hob
              have hs := srcS_ok (P := P) hsrc o1
              rw [hb] at hs
              have hid := (List.getElem?_eq_some_iff.1 hL).1
              have hat : (outS L).at id g = some (e', esz, (encs ty l2).map .c) := by
                simp [Store.at, outS, hL, SObj.out, SV.cellsL, SV.cells]
              unfold tvCopy
              simp only [hu, hsz, hs]
              have e1 : (SV.view id g 0 len).out = .view id g 0 len := rfl
              rw [e1]
              simp only [hat]
              have hm := Nat.mul_le_mul_right ty.size (Nat.le_trans o4 o3)
              by_cases h0 : l'.length = 0
              · have : l' = [] := List.eq_nil_of_length_eq_zero h0
                subst this
                rw [if_pos (show ([] : List ty.den).length = 0 from rfl)]
                have e3 : L.set id (.obj g e' esz [.lst ty ([] ++ l2.drop ([] : List ty.den).length)]) = L := by
                  have hLid : L[id] = SObj.obj g e' esz [.lst ty l2] := by
                    have := List.getElem?_eq_getElem hid
                    rw [this] at hL
                    injection hL
                  simp only [List.nil_append, List.length_nil, List.drop_zero]
                  rw [← hLid]
                  exact List.set_getElem_self hid
                rw [e3]
                rfl
              · rw [if_neg h0, if_pos ⟨o4, by rw [List.length_map, encs_len, ← hb, Nat.zero_add]; exact hm⟩]
                have ha : (SObj.obj g e' esz [.lst ty (l' ++ l2.drop l'.length)]).out = some (.cells g e' esz (splice ((encs ty l2).map .c) 0 ((encs ty l').map .c))) := by
                  simp only [SObj.out, SV.cellsL, SV.cells, List.append_nil, splice, List.take_zero, List.nil_append, Nat.zero_add, List.length_map, encs_len, ← List.map_drop, encs_drop, encs_append, List.map_append]
                rw [outS_set' hid _ ha]
                rfl
            · cases h
          · cases h
        · cases h
      · cases h
    · cases h
  · cases h

def cpyF (tab : Tab) (V : Nat → SV) (L : List SObj) : Op → Option (Prop × SV × List SObj)
  | .call c => match c.callee, c.args.toList, c.argTypes.toList with
    | .builtin .copy, [s, x], [t, _] => match svCopy tab L t (evS V s) (evS V x) with
      | some (ob, v, L') => forceV v fun v => forceO L' fun L' => some (ob, v, L')
      | none => none
    | _, _, _ => none
  | _ => none

theorem scp (hT : TabOK P tab) {K : (Nat → TV) → Store → Prop} {ops : Array Oper} {o : Oper} {os : List Oper} {ob : Prop} {v : SV} (hg : o.guard = none) (hN : dstOk N o = true) (h : cpyF tab V L o.op = some (ob, v, L')) (hob : ob)
    (hk : opsWp P N ops os K (outT (putS V o.dst v)) (outS L')) : opsWp P N ops (o :: os) K (outT V) (outS L) := by
  simp only [opsWp, hg]
  refine .inr ?_
  unfold cpyF at h
  split at h
  · rename_i c ho
    obtain ⟨callee, args, ats⟩ := c
    simp only at h
    split at h
    · rename_i s x t xt hx ht
      obtain rfl := toList_two hx
      obtain rfl := toList_two ht
      split at h
      · rename_i ob' v' L1 he
        rw [forceV_eq, forceO_eq] at h
        injection h with h
        simp only [Prod.mk.injEq] at h
        obtain ⟨rfl, rfl, rfl⟩ := h
        have q3 := svCopy_ok hT he hob
        refine awpOp_value hN (fun F φ a w hs => ?_) (by rw [outT_put]; exact hk)
        rw [← evS_out, ← evS_out] at q3
        obtain ⟨z, w', hz, b3, b1, b2⟩ := tvCopy_ok (P := P) (xt := xt) (ty := o.type) hs.store q3 (ev_rep hs s) (ev_rep hs x)
        refine ⟨z, w', φ, ?_, b1, b2, b3⟩
        obtain ⟨consts, hb⟩ := run_builtin (P := P) (a := a) (w := w) ho
        rw [hb]
        simp only [builtin]
        rw [Sem.run_bind]
        simp only [List.map_toArray, List.map_cons, List.map_nil]
        rw [hz]
        rfl
      · cases h
    · cases h
  · cases h
end
end Go.Sim
