/- A part of the proof: values and stores in plain Lean, and the rules by which a walk is taken. -/
import Derived.Test.YtihdifmachfdbaaSimAC
set_option autoImplicit false
set_option linter.unusedSimpArgs false
set_option linter.unusedVariables false
namespace Go.Sim
open Go

section
variable {P : Program} {tab : Tab} {n0 N : Nat} {V : Nat → SV} {L L' : List SObj} {Q : Exit → (Nat → TV) → Store → Prop}

/-! ### append, by symbols -/
def growO (L : List SObj) (id : Nat) : Option (TypeId × (t : Ty) × List t.den) := match L[id]? with
  | some (.grow et t l) => some (et, ⟨t, l⟩)
  | _ => none
def castR {t' : Ty} (t : Ty) (l : List t'.den) : Option (List t.den) := match decEq t' t with
  | isTrue h => some (h ▸ l)
  | isFalse _ => none
theorem castR_ok {t' t : Ty} {l : List t'.den} {l' : List t.den} (h : castR t l = some l') : (⟨t', l⟩ : (t : Ty) × List t.den) = ⟨t, l'⟩ := by
  unfold castR at h
  split at h
  · rename_i e _
    injection h with h
    subst e
    subst h
    rfl
  · cases h

/-- What is appended. -/
def srcS (L : List SObj) (t : Ty) : SV → Option (Prop × List t.den)
  | .row t' l => match castR t l with
    | some l => some (True, l)
    | none => none
  | .cv .nilsl => some (True, [])
  | .gview id len => match growO L id with
    | some (_, ⟨_, l⟩) => match castR t l with
      | some l => some (len = l.length, l)
      | none => none
    | none => none
  | .view id g off len => match getO L id with
    | some (g', _, _, [.lst _ l]) => match castR t l with
      | some l => match off with
        | 0 => some (isThere L id ∧ g = g' ∧ len ≤ l.length, l.take len)
        | _ => match Nat.beq t.size 1 with
          | true => some (isThere L id ∧ g = g' ∧ off + len ≤ l.length, (l.drop off).take len)
          | false => none
      | none => none
    | some (g', _, _, cs) => match dropC cs off with
      | some (.arr k n f :: _) => match castR (t' := .i k) t ((List.range len).map f) with
        | some l => some (isThere L id ∧ g = g' ∧ len ≤ n, l)
        | none => none
      | _ => none
    | none => none
  | _ => none

theorem flat_ints (k : IntKind) (f : Nat → Int) : ∀ l : List Nat, l.map (fun i => TV.c (CV.int k (f i))) = ((l.map f).flatMap fun n => [CV.int k n]).map TV.c
  | [] => rfl
  | i :: l => by
    have := flat_ints k f l
    simp only [List.map_cons, List.flatMap_cons, List.cons_append, List.nil_append]
    rw [this]
theorem srcS_ok {t : Ty} {x : SV} {ob : Prop} {l : List t.den} (h : srcS L t x = some (ob, l)) (hob : ob) : srcOf P (outS L) t.size x.out = some (l.length, (encs t l).map .c) := by
  unfold srcS at h
  split at h
  · split at h
    · rename_i l' hc
      cases castR_ok hc
      obtain ⟨rfl, rfl⟩ := ov h
      simp only [SV.out, SV.cells, List.headD_cons, srcOf]
      rw [if_pos (encs_len _ _)]
    · cases h
  · obtain ⟨rfl, rfl⟩ := ov h
    rfl
  · rename_i id len
    split at h
    · rename_i et t' l' hg
      split at h
      · rename_i l2 hc
        cases castR_ok hc
        obtain ⟨rfl, rfl⟩ := ov h
        subst hob
        unfold growO at hg
        split at hg
        · rename_i et2 t2 l2 hL
          injection hg with hg
          simp only [Prod.mk.injEq, Sigma.mk.injEq] at hg
          obtain ⟨rfl, rfl, hg⟩ := hg
          have hg := eq_of_heq hg
          subst hg
          cases hl0 : l2.length with
          | zero =>
            have : l2 = [] := List.eq_nil_of_length_eq_zero hl0
            subst this
            rfl
          | succ n =>
            have hne : (l2.length == 0) = false := by rw [hl0]; rfl
            have hat : (outS L).at id l2.length = some (et2, t2.size, (encs t2 l2).map .c) := by
              simp [Store.at, outS, hL, SObj.out, hne]
            have e : (SV.gview id (n + 1)).out = .view id l2.length 0 l2.length := by rw [hl0]; rfl
            rw [e]
            simp only [srcOf, hat]
            rw [if_pos (by rw [List.length_map, encs_len]; omega), List.drop_zero, List.take_of_length_le (by rw [List.length_map, encs_len]; exact Nat.le_refl _), hl0]
        · cases hg
      · cases h
    · cases h
  · rename_i id g off len
    split at h
    · rename_i g' e1 e2 t' l' hg
      split at h
      · rename_i l2 hc
        cases castR_ok hc
        split at h
        · obtain ⟨rfl, rfl⟩ := ov h
          obtain ⟨i1, rfl, i3⟩ := hob
          have hat := getO_ok hg i1
          simp only [SV.cellsL, SV.cells, List.append_nil] at hat
          have hm := Nat.mul_le_mul_right t.size i3
          simp only [SV.out, SV.cells, List.headD_cons, srcOf, hat]
          rw [if_pos (by rw [List.length_map, encs_len]; omega), List.drop_zero, ← List.map_take, encs_take, List.length_take, Nat.min_eq_left i3]
        · split at h
          · rename_i h1
            obtain ⟨rfl, rfl⟩ := ov h
            obtain ⟨i1, rfl, i3⟩ := hob
            have h1 := Nat.eq_of_beq_eq_true h1
            have hat := getO_ok hg i1
            simp only [SV.cellsL, SV.cells, List.append_nil] at hat
            simp only [SV.out, SV.cells, List.headD_cons, srcOf, hat]
            have hd := encs_drop t l2 off
            have ht := encs_take t (l2.drop off) len
            rw [h1, Nat.mul_one] at hd ht
            rw [h1, if_pos (by rw [List.length_map, encs_len, h1]; omega), Nat.mul_one, ← List.map_drop, ← List.map_take, hd, ht, List.length_take, List.length_drop, Nat.min_eq_left (by omega)]
          · cases h
      · cases h
    · rename_i g' e1 e2 cs _ hg
      split at h
      · rename_i k n f rest hd
        split at h
        · rename_i l2 hc
          cases castR_ok hc
          obtain ⟨rfl, rfl⟩ := ov h
          obtain ⟨i1, rfl, i3⟩ := hob
          have hat := getO_ok hg i1
          obtain ⟨d1, d2⟩ := dropC_ok _ _ _ hd
          have hlen := congrArg List.length d1
          rw [List.length_drop] at hlen
          simp only [SV.cellsL, SV.cells, List.length_append, List.length_map, List.length_range] at hlen
          simp only [SV.out, SV.cells, List.headD_cons, srcOf, hat, Ty.size, Nat.mul_one]
          rw [if_pos (by omega), d1]
          simp only [SV.cellsL, SV.cells, List.length_map, List.length_range]
          rw [List.take_append_of_le_length (by simp; omega), ← List.map_take, List.take_range, Nat.min_eq_left i3]
          congr 2
          simp only [encs, enc]
          exact flat_ints k f (List.range len)
        · cases h
      · cases h
    · cases h
  · cases h

def svAppend (tab : Tab) (L : List SObj) (t xt : TypeId) (s x : SV) : Option (Prop × SV × List SObj) := match kindOf tab t, kindOf tab xt with
  | some (.slice e), some (.slice _) => match getT tab e, tyOf tab 6 e with
    | some ti, some ty => match Nat.beq ty.size ti.sz, countC ti.zero ti.sz, srcS L ty x with
      | true, true, some (ob, l') => match s with
        | .cv .nilsl => some (ob ∧ l'.length * ti.bytes ≤ 140737488355328 ∧ l'.length ≤ 140737488355328, .gview L.length l'.length, L ++ [.grow e ty l'])
        | .gview id len => match growO L id with
          | some (e', ⟨_, l⟩) => match Nat.beq e' e, castR ty l with
            | true, some l => some (ob ∧ len = l.length ∧ (len + l'.length) * ti.bytes ≤ 140737488355328 ∧ len + l'.length ≤ 140737488355328, .gview id (len + l'.length), L.set id (.grow e ty (l ++ l')))
            | _, _ => none
          | none => none
        | .view id g 0 len => match L[id]? with
          | some (.obj g' e' esz [.lst _ l]) => match Nat.beq e' e, Nat.beq esz ti.sz, castR ty l with
            | true, true, some l => some (ob ∧ g = g' ∧ 0 < l'.length ∧ len ≤ l.length ∧ (len + l'.length) * ti.bytes ≤ 140737488355328 ∧ len + l'.length ≤ 140737488355328, .view id (g + 1) 0 (len + l'.length), L.set id (.obj (g + 1) e esz [.lst ty (l.take len ++ l')]))
            | _, _, _ => none
          | _ => none
        | _ => none
      | _, _, _ => none
    | _, _ => none
  | _, _ => none

theorem outS_setO {id : Nat} (hid : id < L.length) (o : SObj) {a : AObj} (ho : o.out = some a) (nx : Nat) (hnx : nx = L.length) : (outS L).putAt id nx a = outS (L.set id o) := by
  subst hnx
  refine store_ext (by simp [outS, Store.putAt]) fun i => ?_
  rw [get_putAt]
  simp only [outS, List.getElem?_set]
  by_cases e : i = id
  · subst e; simp [hid, ho]
  · rw [if_neg e, if_neg (Ne.symm e)]
theorem outS_set' {id : Nat} (hid : id < L.length) (o : SObj) {a : AObj} (ho : o.out = some a) : (outS L).set id a = outS (L.set id o) := outS_setO hid o ho _ rfl
theorem outS_pushN (o : SObj) (ho : o.out = none) : (outS L).nx (L.length + 1) = outS (L ++ [o]) := by
  refine store_ext (by simp [outS, Store.nx]) fun i => ?_
  simp only [outS, Store.nx]
  rcases Nat.lt_or_ge i L.length with hl | hl
  · rw [List.getElem?_append_left hl]
  · rw [List.getElem?_append_right hl, List.getElem?_eq_none hl]
    cases i - L.length with
    | zero => simp [ho]
    | succ n => simp
theorem outS_pushP (o : SObj) {a : AObj} (ho : o.out = some a) : (outS L).putAt L.length (L.length + 1) a = outS (L ++ [o]) := by
  rw [← outS_push L o ho]
  rfl
theorem store_set_put {S : Store} {id : Nat} {o : AObj} : S.set id o = S.putAt id S.next o := rfl

theorem svAppend_ok (hT : TabOK P tab) {t xt : TypeId} {s x v : SV} {ob : Prop} (h : svAppend tab L t xt s x = some (ob, v, L')) (hob : ob) :
    ∃ id' nx gn gv, (outS L).next ≤ nx ∧ id' < nx ∧ tvAppendG P (outS L) id' nx gn gv t xt s.out x.out = some (v.out, outS L') := by
  unfold svAppend at h
  split at h
  · rename_i e e2 hk hk2
    obtain ⟨ti0, g1, g2⟩ := kind_get hk
    have hu := tab_slice hT g1 g2
    obtain ⟨ti1, g3, g4⟩ := kind_get hk2
    have hu2 := tab_slice hT g3 g4
    split at h
    · rename_i ti ty hti hty
      split at h
      · rename_i ob1 l' hb hz hsrc
        have hb := Nat.eq_of_beq_eq_true hb
        obtain ⟨z, hz1, hz2⟩ := tab_zero hT hti
        have hzl : z.length = ti.sz := by
          have := countC_ok hz
          rw [hz2, List.length_map] at this
          exact this
        have hpos := Ty.size_pos ty
        have hsz := tab_sz hT hti
        have hby := tab_bytes hT hti
        have red : ∀ (id' nx gn gv : Nat) (sv : TV), ob1 → tvAppendG P (outS L) id' nx gn gv t xt sv x.out = (match sv with
            | .c .nilsl => if l'.length = 0 then some (.c .nilsl, (outS L).nx nx) else if (outS L).get id' = none ∧ l'.length * ti.bytes ≤ 140737488355328 ∧ l'.length ≤ 140737488355328 then some (.view id' gn 0 l'.length, (outS L).putAt id' nx (.cells gn e ti.sz ((encs ty l').map .c))) else none
            | .view id g off len => match (outS L).at id g with
              | some (et, esz, cs) => if l'.length = 0 then some (.view id g off len, outS L) else
                if et = e ∧ esz = ti.sz ∧ off + len * ti.sz ≤ cs.length ∧ (len + l'.length) * ti.bytes ≤ 140737488355328 ∧ len + l'.length ≤ 140737488355328 ∧ g < gv then
                  some (.view id gv 0 (len + l'.length), (outS L).set id (.cells gv e ti.sz ((cs.drop off).take (len * ti.sz) ++ (encs ty l').map .c))) else none
              | none => none
            | _ => none) := fun id' nx gn gv sv h1 => by
          have hs := srcS_ok (P := P) hsrc h1
          rw [hb] at hs
          unfold tvAppendG
          simp only [hu, hu2, hsz, hby, hz1]
          rw [if_pos ⟨hzl, by omega⟩, hs]
          rfl
        split at h
        · injection h with h
          simp only [Prod.mk.injEq] at h
          obtain ⟨rfl, rfl, rfl⟩ := h
          obtain ⟨o1, o2, o3⟩ := hob
          refine ⟨L.length, L.length + 1, l'.length, 0, Nat.le_succ _, Nat.lt_succ_self _, ?_⟩
          rw [red _ _ _ _ _ o1]
          simp only [SV.out, SV.cells, List.headD_cons]
          by_cases h0 : l'.length = 0
          · have : l' = [] := List.eq_nil_of_length_eq_zero h0
            subst this
            rw [if_pos (show ([] : List ty.den).length = 0 from rfl), outS_pushN (.grow e ty []) rfl]
            rfl
          · have hne : (l'.length == 0) = false := by simpa using h0
            rw [if_neg h0, if_pos ⟨by simp [outS], o2, o3⟩, outS_pushP (.grow e ty l') (by simp only [SObj.out, hne, cond_false, hb])]
            simp only [hne, cond_false]
        · rename_i id len
          split at h
          · rename_i e' t' l hg
            split at h
            · rename_i l2 he hc
              cases castR_ok hc
              have he := Nat.eq_of_beq_eq_true he
              subst he
              injection h with h
              simp only [Prod.mk.injEq] at h
              obtain ⟨rfl, rfl, rfl⟩ := h
              obtain ⟨o1, rfl, o3, o4⟩ := hob
              unfold growO at hg
              split at hg
              · rename_i et2 t2 l3 hL
                injection hg with hg
                simp only [Prod.mk.injEq, Sigma.mk.injEq] at hg
                obtain ⟨rfl, rfl, hg⟩ := hg
                have hg := eq_of_heq hg
                subst hg
                have hid := (List.getElem?_eq_some_iff.1 hL).1
                refine ⟨id, L.length, l'.length, l3.length + l'.length, Nat.le_refl _, hid, ?_⟩
                rw [red _ _ _ _ _ o1]
                cases hl0 : l3.length with
                | zero =>
                  have : l3 = [] := List.eq_nil_of_length_eq_zero hl0
                  subst this
                  simp only [SV.out, SV.cells, List.headD_cons, BEq.rfl, cond_true, Nat.zero_add, List.nil_append]
                  by_cases h0 : l'.length = 0
                  · have : l' = [] := List.eq_nil_of_length_eq_zero h0
                    subst this
                    rw [if_pos (show ([] : List t2.den).length = 0 from rfl)]
                    have e1 : (outS L).nx L.length = outS (L.set id (.grow et2 t2 [])) := by
                      refine store_ext (by simp [outS, Store.nx]) fun i => ?_
                      simp only [outS, Store.nx, List.getElem?_set]
                      by_cases e : id = i
                      · subst e; rw [hL]; simp [hid]
                      · rw [if_neg e]
                    rw [e1]
                    rfl
                  · have hne : (l'.length == 0) = false := by simpa using h0
                    simp only [List.length_nil, Nat.zero_add] at o3 o4
                    rw [if_neg h0, if_pos ⟨by simp [outS, hL, SObj.out], o3, o4⟩, outS_setO hid (.grow et2 t2 l') (by simp only [SObj.out, hne, cond_false, hb]) _ rfl]
                    simp only [hne, cond_false]
                | succ n =>
                  have hne : (l3.length == 0) = false := by rw [hl0]; rfl
                  have hat : (outS L).at id l3.length = some (et2, t2.size, (encs t2 l3).map .c) := by
                    simp [Store.at, outS, hL, SObj.out, hne]
                  have e1 : (SV.gview id (n + 1)).out = .view id l3.length 0 l3.length := by rw [hl0]; rfl
                  rw [e1]
                  simp only [hat]
                  by_cases h0 : l'.length = 0
                  · have : l' = [] := List.eq_nil_of_length_eq_zero h0
                    subst this
                    rw [if_pos (show ([] : List t2.den).length = 0 from rfl), List.append_nil]
                    have e3 : L.set id (.grow et2 t2 l3) = L := by
                      have hLid : L[id] = SObj.grow et2 t2 l3 := by
                        have := List.getElem?_eq_getElem hid
                        rw [this] at hL
                        injection hL
                      rw [← hLid]
                      exact List.set_getElem_self hid
                    rw [e3, ← e1]
                    rfl
                  · have hne2 : (l3.length + l'.length == 0) = false := by rw [hl0]; simp
                    have ha : (SObj.grow et2 t2 (l3 ++ l')).out = some (.cells (l3.length + l'.length) et2 ti.sz ((encs t2 l3).map .c ++ (encs t2 l').map .c)) := by
                      simp only [SObj.out, hne2, cond_false, List.length_append, encs_append, List.map_append, hb]
                    have hs2 := outS_set' hid (.grow et2 t2 (l3 ++ l')) ha
                    have ht : ((encs t2 l3).map TV.c).take (l3.length * ti.sz) = (encs t2 l3).map TV.c := List.take_of_length_le (by rw [List.length_map, encs_len, hb]; exact Nat.le_refl _)
                    rw [if_neg h0, if_pos ⟨trivial, hb, by rw [List.length_map, encs_len, hb]; omega, o3, o4, by omega⟩, List.drop_zero, ht, ← hl0, hs2]
                    simp only [SV.out, SV.cells, List.headD_cons, hne2, cond_false]
              · cases hg
            · cases h
          · cases h
        · rename_i id g len
          split at h
          · rename_i g' e' esz t' l hL
            split at h
            · rename_i l2 he hz2' hc
              cases castR_ok hc
              have he := Nat.eq_of_beq_eq_true he
              subst he
              have hes := Nat.eq_of_beq_eq_true hz2'
              subst hes
              injection h with h
              simp only [Prod.mk.injEq] at h
              obtain ⟨rfl, rfl, rfl⟩ := h
              obtain ⟨o1, rfl, o3, o4, o5, o6⟩ := hob
              have hid := (List.getElem?_eq_some_iff.1 hL).1
              refine ⟨id, L.length, 0, g + 1, Nat.le_refl _, hid, ?_⟩
              rw [red _ _ _ _ _ o1]
              have hat : (outS L).at id g = some (e', ti.sz, (encs ty l2).map .c) := by
                simp [Store.at, outS, hL, SObj.out, SV.cellsL, SV.cells]
              have hm := Nat.mul_le_mul_right ty.size o4
              simp only [SV.out, SV.cells, List.headD_cons, hat]
              have ha : (SObj.obj (g + 1) e' ti.sz [.lst ty (l2.take len ++ l')]).out = some (.cells (g + 1) e' ti.sz ((encs ty (l2.take len)).map .c ++ (encs ty l').map .c)) := by
                simp only [SObj.out, SV.cellsL, SV.cells, List.append_nil, encs_append, List.map_append]
              have hs2 := outS_set' hid (.obj (g + 1) e' ti.sz [.lst ty (l2.take len ++ l')]) ha
              have ht : ((encs ty l2).map TV.c).take (len * ti.sz) = (encs ty (l2.take len)).map TV.c := by rw [← List.map_take, ← hb, encs_take]
              rw [if_neg (by omega), if_pos ⟨trivial, trivial, by rw [List.length_map, encs_len, ← hb]; omega, o5, o6, Nat.lt_succ_self _⟩, List.drop_zero, ht, hs2]
            · cases h
          · cases h
        · cases h
      · cases h
    · cases h
  · cases h

def appF (tab : Tab) (V : Nat → SV) (L : List SObj) : Op → Option (Prop × SV × List SObj)
  | .call c => match c.callee, c.args.toList, c.argTypes.toList with
    | .builtin .append, [s, x], [t, xt] => match svAppend tab L t xt (evS V s) (evS V x) with
      | some (ob, v, L') => forceV v fun v => forceO L' fun L' => some (ob, v, L')
      | none => none
    | _, _, _ => none
  | _ => none

theorem sap (hT : TabOK P tab) {K : (Nat → TV) → Store → Prop} {ops : Array Oper} {o : Oper} {os : List Oper} {ob : Prop} {v : SV} {d : Tmp} (hg : o.guard = none) (hd : o.dst = some d) (hN : dstOk N o = true) (h : appF tab V L o.op = some (ob, v, L')) (hob : ob)
    (hk : opsWp P N ops os K (outT (putS V (some d) v)) (outS L')) : opsWp P N ops (o :: os) K (outT V) (outS L) := by
  simp only [opsWp, hg]
  refine .inr ?_
  unfold appF at h
  split at h
  · rename_i c ho
    obtain ⟨callee, args, ats⟩ := c
    simp only at h
    split at h
    · rename_i s x t xt hx ht
      obtain rfl := toList_two hx
      obtain rfl := toList_two ht
      split at h
      · rename_i ob' v' L1 he
        rw [forceV_eq, forceO_eq] at h
        injection h with h
        simp only [Prod.mk.injEq] at h
        obtain ⟨rfl, rfl, rfl⟩ := h
        obtain ⟨id', nx, gn, gv, q1, q2, q3⟩ := svAppend_ok hT he hob
        refine awpOp_value hN (fun F φ a w hs => ?_) (by rw [outT_put, hd]; exact hk)
        rw [← evS_out, ← evS_out] at q3
        obtain ⟨z, w', φ', hz, b1, b2, b3⟩ := tvAppendG_ok (P := P) (ty := o.type) q1 q2 hs.store q3 (ev_rep hs s) (ev_rep hs x)
        refine ⟨z, w', φ', ?_, b1, b2, b3⟩
        obtain ⟨consts, hb⟩ := run_builtin (P := P) (a := a) (w := w) ho
        rw [hb]
        simp only [builtin]
        rw [Sem.run_bind]
        simp only [List.map_toArray, List.map_cons, List.map_nil]
        rw [hz]
        rfl
      · cases h
    · cases h
  · cases h

/-! ### calls whose arguments are looked at as they stand -/
mutual
def flatS : SV → Bool
  | .int _ _ | .bool _ | .tt | .ff | .str _ | .cv .nilptr | .cv .nilsl | .cv .nilif => true
  | .tup l => flatL l
  | _ => false
def flatL : List SV → Bool
  | [] => true
  | v :: l => flatS v && flatL l
end
mutual
theorem flatS_ok : ∀ (v : SV), flatS v = true → Flat v.out
  | .int _ _, _ => .c _ (.int _ _)
  | .bool _, _ => .c _ (.bool _)
  | .tt, _ => .c _ (.bool _)
  | .ff, _ => .c _ (.bool _)
  | .str _, _ => .c _ (.str _)
  | .cv .nilptr, _ => .c _ .nilptr
  | .cv .nilsl, _ => .c _ .nilsl
  | .cv .nilif, _ => .c _ .nilif
  | .tup l, h => by
    have h' : flatL l = true := by simpa [flatS] using h
    have := flatL_ok l h'
    exact .tup _ (by simpa [outL_map] using this)
theorem flatL_ok : ∀ (l : List SV), flatL l = true → ∀ u ∈ SV.outL l, Flat u
  | [], _, u, hu => by simp [SV.outL] at hu
  | v :: l, h, u, hu => by
    simp only [flatL, Bool.and_eq_true] at h
    simp only [SV.outL, List.mem_cons] at hu
    rcases hu with hu | hu
    · subst hu; exact flatS_ok v h.1
    · exact flatL_ok l h.2 u hu
end

theorem acall_look {g : FuncId} {avs favs : List SV} {r : SV} (hA : CS P g favs r) (hf : FrzSL L avs favs) (hr : flatS r = true) : ACall P g (avs.map SV.out) (outS L) fun r' S' => r' = r.out ∧ S' = outS L := by
  obtain ⟨h1, h2⟩ := hf.get
  refine acall_snap (favs := favs.map SV.out) (by simp [h1]) (fun i hi v hv => ?_) hA (flatS_ok r hr)
  simp at hi
  have h3 : i < avs.length := by omega
  simp [h3] at hv
  subst hv
  simpa using frzS_ok (h2 i h3 hi)

theorem sf {K : (Nat → TV) → Store → Prop} {ops : Array Oper} {o : Oper} {os : List Oper} {d : Tmp} {g : FuncId} {avs favs : List SV} {r : SV} (hA : CS P g favs r) (hg : o.guard = none) (hd : o.dst = some d) (hN : dstOk N o = true) (hc : callS V o.op = some (g, avs)) (hf : isFunc P g = true)
    (ha : FrzSL L avs favs) (hr : flatS r = true) (hk : opsWp P N ops os K (outT (putS V (some d) r)) (outS L)) : opsWp P N ops (o :: os) K (outT V) (outS L) := by
  refine ops_acall hg (callS_prim hc _ _) (callS_ok hc) hN hf (acall_look hA ha hr) ?_
  rintro _ _ ⟨rfl, rfl⟩
  rw [outT_put, hd]
  exact hk
theorem sdf {b : Bool} (hb : b = false) {K : (Nat → TV) → Store → Prop} {ops : Array Oper} {o : Oper} {os : List Oper} {d : Tmp} {g : FuncId} {avs favs : List SV} {r : SV} (hA : CS P g favs r) (hg : o.guard = none) (hd : o.dst = some d) (hc : callS V o.op = some (g, avs)) (hf : isFunc P g = true)
    (ha : FrzSL L avs favs) (hr : flatS r = true) (hk : opsD P b ops os K (outT (putS V (some d) r)) (outS L)) : opsD P b ops (o :: os) K (outT V) (outS L) := by
  subst hb
  refine opd_callS hg (callS_prim hc _ _) (callS_ok hc) hf (acall_look hA ha hr) ?_
  rw [outT_put, hd]
  exact hk

/-! little words for what the evaluation leaves -/
theorem dflt_i (k : IntKind) : dflt (.i k) = (0 : Int) := rfl
theorem dflt_b : dflt .b = false := rfl
theorem dflt_s : dflt .s = ByteArray.empty := rfl
theorem dflt_l (t : Ty) : dflt (.l t) = ([] : List t.den) := rfl
theorem dflt_p (x y : Ty) : dflt (.p x y) = (dflt x, dflt y) := rfl
end
end Go.Sim
