/- A part of the proof: values and stores in plain Lean, and the rules by which a walk is taken. -/
import Derived.Test.YtihdifmachfdbaaSimAM
set_option autoImplicit false
set_option linter.unusedSimpArgs false
set_option linter.unusedVariables false
namespace Go.Sim
open Go

section
variable {P : Program} {tab : Tab} {n0 N : Nat} {V : Nat → SV} {L L' : List SObj}

/-! ### results that lie in cells -/
def resV (tab : Tab) (V : Nat → SV) (L : List SObj) : ResultVar → Option (Prop × SV)
  | .tmp t => some (True, V t)
  | .cell x ty => svLoad tab L ty (V x)
def resVs (tab : Tab) (V : Nat → SV) (L : List SObj) : List ResultVar → Option (Prop × List SV)
  | [] => some (True, [])
  | r :: rs => match resV tab V L r, resVs tab V L rs with
    | some (o1, v), some (o2, vs) => some (o1 ∧ o2, v :: vs)
    | _, _ => none
theorem resV_ok (hT : TabOK P tab) {r : ResultVar} {ob : Prop} {v : SV} (h : resV tab V L r = some (ob, v)) (hob : ob) : resOf P (outT V) (outS L) r = some v.out := by
  cases r with
  | tmp t => obtain ⟨_, rfl⟩ := ov h; rfl
  | cell x ty => exact svLoad_ok hT h hob
theorem resVs_ok (hT : TabOK P tab) : ∀ {rs : List ResultVar} {ob : Prop} {vs : List SV}, resVs tab V L rs = some (ob, vs) → ob → resAll P (outT V) (outS L) rs = some (vs.map SV.out)
  | [], ob, vs, h, hob => by obtain ⟨_, rfl⟩ := ov h; rfl
  | r :: rs, ob, vs, h, hob => by
    simp only [resVs] at h
    split at h
    · rename_i o1 v o2 vs' h1 h2
      obtain ⟨rfl, rfl⟩ := ov h
      simp only [resAll, resV_ok hT h1 hob.1, resVs_ok hT h2 hob.2]
      rfl
    · cases h

def RetK (tab : Tab) (rs : List ResultVar) (r : SV) : Exit → (Nat → TV) → Store → Prop
  | .normal, T, S | .ret, T, S => ∃ (V : Nat → SV) (L : List SObj) (ob : Prop) (vs : List SV), T = outT V ∧ S = outS L ∧ resVs tab V L rs = some (ob, vs) ∧ ob ∧ FrzS L (packS vs) r
  | _, _, _ => False
theorem ret_k {rs : List ResultVar} {r : SV} {ob : Prop} {vs : List SV} (hv : resVs tab V L rs = some (ob, vs)) (hob : ob) (h : FrzS L (packS vs) r) : RetK tab rs r .ret (outT V) (outS L) := ⟨V, L, ob, vs, rfl, rfl, hv, hob, h⟩
theorem ret_kn {rs : List ResultVar} {r : SV} {ob : Prop} {vs : List SV} (hv : resVs tab V L rs = some (ob, vs)) (hob : ob) (h : FrzS L (packS vs) r) : RetK tab rs r .normal (outT V) (outS L) := ⟨V, L, ob, vs, rfl, rfl, hv, hob, h⟩

theorem fn_k (hT : TabOK P tab) {g : FuncId} {fn : Func} {c : Code} {avs : List SV} {r : SV} (rs : List ResultVar) (hf : P.funcs[g]? = some fn) (hN : fn.ntmps = N) (hb : fn.body = some c) (hr : fn.results.toList = rs) (hn : Nat.ble avs.length N = true) (hc : closedL avs = true)
    (h : awpB P 0 N c (RetK tab rs r) (outT (look (enum 0 avs))) (outS [])) : CS P g avs r := by
  refine ccall_of (closed_outs hc) ?_
  have e0 : Store.empty = outS [] := rfl
  refine acall_introB (n0 := 0) hf hN hb (by simpa using Nat.le_of_ble_eq_true hn) (fun id o h => by simp [Store.empty] at h) ?_
  rw [enum_arg] at h
  refine awpB_mono h ?_
  intro e T S hq
  have key : (∃ (V : Nat → SV) (L : List SObj) (ob : Prop) (vs : List SV), T = outT V ∧ S = outS L ∧ resVs tab V L rs = some (ob, vs) ∧ ob ∧ FrzS L (packS vs) r) →
      ∃ T'' S'' vs, Goes 0 T S T'' S'' ∧ resAll P T'' S'' fn.results.toList = some vs ∧ FrzT S'' (pack vs) r.out := by
    rintro ⟨V, L, ob, vs, rfl, rfl, hv, hob, hf⟩
    refine ⟨_, _, _, goes_refl _ _ _, by rw [hr]; exact resVs_ok hT hv hob, ?_⟩
    rw [packS_out]
    exact frzS_ok hf
  cases e with
  | normal => exact ⟨.inl rfl, key hq⟩
  | ret => exact ⟨.inr rfl, key hq⟩
  | _ => exact hq.elim
theorem fs_aggs {l l' : List SV} (hs : l.all SV.single = true) (hs' : l'.all SV.single = true) (h : FrzSL L l l') : FrzS L (.agg l) (.agg l') := fs_agg h hs hs'
end
end Go.Sim
