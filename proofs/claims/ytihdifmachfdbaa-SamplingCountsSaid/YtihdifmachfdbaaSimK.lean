/- A part of the proof: values and stores in plain Lean, and the rules by which a walk is taken. -/
import Derived.Test.YtihdifmachfdbaaSimHB
import Derived.Laws.Build
set_option autoImplicit false
set_option linter.unusedSimpArgs false
set_option linter.unusedVariables false
namespace Go.Sim
open Go

/-- One operation without a call of a function: its value, and the store behind it. -/
def evalPrim (P : Program) (T : Nat → TV) (S : Store) : Op → Option (TV × Store)
  | .move x => some (ev T x, S)
  | .assign x => some (ev T x, S)
  | .pick c x y => match ev T c with
    | .c (.bool t) => some (bif t then ev T x else ev T y, S)
    | _ => none
  | .binOp op t x y _ => (tvBinT P op t (ev T x) (ev T y)).map (·, S)
  | .unOp op _ x => (tvUn op (ev T x)).map (·, S)
  | .convert s d x => match tvConv P s d (ev T x) with
    | some v => some (v, S)
    | none => (tvStr P S s d (ev T x)).map (·, S)
  | .extract x i => (tvExtract (ev T x) i).map (·, S)
  | .nilCheck x => (tvNil (ev T x)).map (·, S)
  | .field t x f => (tvField P t (ev T x) f).map (·, S)
  | .index t x i => (tvIndex P t (ev T x) (ev T i)).map (·, S)
  | .fieldAddr t x f => (tvFieldAddr P t (ev T x) f).map (·, S)
  | .indexAddr t x i => (tvIndexAddr P S t (ev T x) (ev T i)).map (·, S)
  | .slice t x lo hi none => (tvSlice P S t (ev T x) (lo.map (ev T)) (hi.map (ev T))).map (·, S)
  | .load t x => (tvLoad P S t (ev T x)).map (·, S)
  | .store t x v => (tvStore P S t (ev T x) (ev T v)).map (.junk, ·)
  | .alloc e => tvAlloc P S e
  | .box e v => tvBox S e (ev T v)
  | .build t parts => (tvBuild P t (evParts T parts)).map (·, S)
  | .buildSlice t n parts => tvBuildSlice P S t n (evParts T parts)
  | .makeSlice t l c => tvMake P S t (ev T l) (ev T c)
  | .makeFunc f l1 l2 => some (.fn f (l1.toList.map (ev T)) (l2.toList.map (ev T)), S)
  | .makeInterface t x => if P.concrete t = true then match ev T x with
      | .c v => some (.c (.ifc t v), S)
      | v => some (.ifc t v, S)
    else none
  | .call c => match c.callee with
    | .builtin .len => match c.args.toList, c.argTypes.toList with
      | [x], [t] => (tvLen P S t (ev T x)).map (·, S)
      | _, _ => none
    | .builtin .max => (tvMax (c.args.toList.map (ev T))).map (·, S)
    | .builtin .min => (tvMin (c.args.toList.map (ev T))).map (·, S)
    | .builtin .append => match c.args.toList, c.argTypes.toList with
      | [s, x], [t, xt] => tvAppend P S t xt (ev T s) (ev T x)
      | _, _ => none
    | .builtin .copy => match c.args.toList, c.argTypes.toList with
      | [s, x], [t, _] => tvCopy P S t (ev T s) (ev T x)
      | _, _ => none
    | _ => none
  | _ => none

section
variable {P : Program} {N : Nat} {F : Nat → Prop} {φ : Env} {T : Nat → TV} {S : Store} {a : Act} {w : World} {M : Nat → Prop}

theorem run_builtin {b : Builtin} {args : Array Operand} {ats : Array TypeId} {o : Oper} (ho : o.op = .call { callee := .builtin b, args := args, argTypes := ats }) :
    ∃ cs, (execOp a.eval o).run P w = (builtin b ats o.type cs (args.map a.eval)).run P w := by
  refine ⟨args.map fun | .const _ => true | _ => false, ?_⟩
  simp only [execOp, ho, resolve, Sem.run_bind, Sem.run_pure, Result.andThen_ok, invoke]
  rfl

theorem optRep_of (hs : SRep N F φ T S a w) (x : Option Operand) : optRep w (Mut F φ S) φ S (x.map (ev T)) (x.map a.eval) := by
  cases x with
  | none => exact ⟨fun v h => by simp at h, fun _ => rfl⟩
  | some x => exact ⟨fun v h => by simp at h; subst h; exact ⟨_, rfl, ev_rep hs x⟩, fun h => by simp at h⟩

theorem toList_one {α : Type} {xs : Array α} {x : α} (h : xs.toList = [x]) : xs = #[x] := by
  apply Array.ext'
  simpa using h
theorem toList_two {α : Type} {xs : Array α} {x y : α} (h : xs.toList = [x, y]) : xs = #[x, y] := by
  apply Array.ext'
  simpa using h

theorem evalPrim_ok {o : Oper} {K : (Nat → TV) → Store → Prop} {v : TV} {S' : Store} (hd : dstOk N o = true) (h : evalPrim P T S o.op = some (v, S')) (hK : K (put T o.dst v) S') : awpOp P N o K T S := by
  unfold evalPrim at h
  split at h
  case h_1 x ho =>
    simp at h
    obtain ⟨rfl, rfl⟩ := h
    exact awpOp_still hd (fun F φ a w hs => ⟨_, by simp [execOp, ho], ev_rep hs x⟩) hK
  case h_2 x ho =>
    simp at h
    obtain ⟨rfl, rfl⟩ := h
    exact awpOp_still hd (fun F φ a w hs => ⟨_, by simp [execOp, ho], ev_rep hs x⟩) hK
  case h_3 c x y ho =>
    split at h
    · rename_i t hc
      simp at h
      obtain ⟨rfl, rfl⟩ := h
      refine awpOp_still hd (fun F φ a w hs => ?_) hK
      have hb := ev_rep hs c
      rw [hc] at hb
      have hb' := rep_bool hb
      refine ⟨if t then a.eval x else a.eval y, by simp [execOp, ho, hb', asBool], ?_⟩
      cases t
      · simpa using ev_rep hs y
      · simpa using ev_rep hs x
    · simp at h
  case h_4 op t x y yt ho =>
    simp only [Option.map_eq_some_iff, Prod.mk.injEq] at h
    obtain ⟨u, hu, rfl, rfl⟩ := h
    refine awpOp_still hd (fun F φ a w hs => ?_) hK
    obtain ⟨z, hz, hv⟩ := tvBinT_ok (P := P) (xo := x) (yo := y) hu (ev_rep hs x) (ev_rep hs y)
    exact ⟨z, by simp only [execOp, ho]; rw [Sem.run_bind, hz]; rfl, hv⟩
  case h_5 op t x ho =>
    simp only [Option.map_eq_some_iff, Prod.mk.injEq] at h
    obtain ⟨u, hu, rfl, rfl⟩ := h
    refine awpOp_still hd (fun F φ a w hs => ?_) hK
    obtain ⟨z, hz, hv⟩ := tvUn_ok (P := P) hu (ev_rep hs x)
    exact ⟨z, by simp only [execOp, ho]; rw [Sem.run_bind, hz]; rfl, hv⟩
  case h_6 s d x ho =>
    split at h
    · rename_i u hu
      simp only [Option.some.injEq, Prod.mk.injEq] at h
      obtain ⟨rfl, rfl⟩ := h
      refine awpOp_still hd (fun F φ a w hs => ?_) hK
      obtain ⟨z, hz, hv⟩ := tvConv_ok (P := P) hu (ev_rep hs x)
      exact ⟨z, by simp only [execOp, ho]; rw [Sem.run_bind, hz]; rfl, hv⟩
    · simp only [Option.map_eq_some_iff, Prod.mk.injEq] at h
      obtain ⟨u, hu, rfl, rfl⟩ := h
      refine awpOp_still hd (fun F φ a w hs => ?_) hK
      obtain ⟨z, hz, hv⟩ := tvStr_ok (P := P) hs.store hu (ev_rep hs x)
      exact ⟨z, by simp only [execOp, ho]; rw [Sem.run_bind, hz]; rfl, hv⟩
  case h_7 x i ho =>
    simp only [Option.map_eq_some_iff, Prod.mk.injEq] at h
    obtain ⟨u, hu, rfl, rfl⟩ := h
    refine awpOp_still hd (fun F φ a w hs => ?_) hK
    obtain ⟨z, hz, hv⟩ := tvExtract_ok (P := P) hu (ev_rep hs x)
    exact ⟨z, by simp only [execOp, ho]; rw [Sem.run_bind, hz]; rfl, hv⟩
  case h_8 x ho =>
    simp only [Option.map_eq_some_iff, Prod.mk.injEq] at h
    obtain ⟨u, hu, rfl, rfl⟩ := h
    refine awpOp_still hd (fun F φ a w hs => ?_) hK
    have hr := ev_rep hs x
    generalize hx : a.eval x = y at hr
    unfold tvNil at hu
    split at hu <;> rename_i e <;> simp at hu <;> subst hu <;> rw [e] at hr <;> refine ⟨y, ?_, hr⟩ <;> cases hr <;> simp [execOp, ho, hx]
  case h_9 t x f ho =>
    simp only [Option.map_eq_some_iff, Prod.mk.injEq] at h
    obtain ⟨u, hu, rfl, rfl⟩ := h
    refine awpOp_still hd (fun F φ a w hs => ?_) hK
    obtain ⟨z, hz, hv⟩ := tvField_ok (P := P) hu (ev_rep hs x)
    exact ⟨z, by simp only [execOp, ho]; rw [Sem.run_bind, hz]; rfl, hv⟩
  case h_10 t x i ho =>
    simp only [Option.map_eq_some_iff, Prod.mk.injEq] at h
    obtain ⟨u, hu, rfl, rfl⟩ := h
    refine awpOp_still hd (fun F φ a w hs => ?_) hK
    obtain ⟨z, hz, hv⟩ := tvIndex_ok (P := P) hu (ev_rep hs x) (ev_rep hs i)
    exact ⟨z, by simp only [execOp, ho]; rw [Sem.run_bind, hz]; rfl, hv⟩
  case h_11 t x f ho =>
    simp only [Option.map_eq_some_iff, Prod.mk.injEq] at h
    obtain ⟨u, hu, rfl, rfl⟩ := h
    refine awpOp_still hd (fun F φ a w hs => ?_) hK
    obtain ⟨z, hz, hv⟩ := tvFieldAddr_ok (P := P) hu (ev_rep hs x)
    exact ⟨z, by simp only [execOp, ho]; rw [Sem.run_bind, hz]; rfl, hv⟩
  case h_12 t x i ho =>
    simp only [Option.map_eq_some_iff, Prod.mk.injEq] at h
    obtain ⟨u, hu, rfl, rfl⟩ := h
    refine awpOp_still hd (fun F φ a w hs => ?_) hK
    obtain ⟨z, hz, hv⟩ := tvIndexAddr_ok (P := P) hu (ev_rep hs x) (ev_rep hs i)
    exact ⟨z, by simp only [execOp, ho]; rw [Sem.run_bind, hz]; rfl, hv⟩
  case h_13 t x lo hi ho =>
    simp only [Option.map_eq_some_iff, Prod.mk.injEq] at h
    obtain ⟨u, hu, rfl, rfl⟩ := h
    refine awpOp_still hd (fun F φ a w hs => ?_) hK
    obtain ⟨z, hz, hv⟩ := tvSlice_ok (P := P) hs.store hu (ev_rep hs x) (optRep_of hs lo) (optRep_of hs hi)
    exact ⟨z, by simp only [execOp, ho, Option.map_none]; rw [Sem.run_bind, hz]; rfl, hv⟩
  case h_14 t x ho =>
    simp only [Option.map_eq_some_iff, Prod.mk.injEq] at h
    obtain ⟨u, hu, rfl, rfl⟩ := h
    refine awpOp_still hd (fun F φ a w hs => ?_) hK
    obtain ⟨z, hz, hv⟩ := tvLoad_ok (P := P) hs.store hu (ev_rep hs x)
    exact ⟨z, by simp only [execOp, ho]; rw [Sem.run_bind, hz]; rfl, hv⟩
  case h_15 t x y ho =>
    simp only [Option.map_eq_some_iff, Prod.mk.injEq] at h
    obtain ⟨u, hu, rfl, rfl⟩ := h
    refine awpOp_skip hd (fun F φ a w hs => ?_) hK
    obtain ⟨w', hz, b1, b2⟩ := tvStore_ok (P := P) hs.store hu (ev_rep hs x) (ev_rep hs y)
    exact ⟨w', φ, by simp only [execOp, ho]; rw [Sem.run_bind, hz]; rfl, b1, b2⟩
  case h_16 e ho =>
    refine awpOp_value hd (fun F φ a w hs => ?_) hK
    obtain ⟨z, w', φ', hz, b1, b2, b3⟩ := tvAlloc_ok (P := P) hs.store h
    exact ⟨z, w', φ', by simp only [execOp, ho]; rw [Sem.run_bind, hz]; rfl, b1, b2, b3⟩
  case h_17 e x ho =>
    refine awpOp_value hd (fun F φ a w hs => ?_) hK
    obtain ⟨z, w', φ', hz, b1, b2, b3⟩ := tvBox_ok (P := P) hs.store h (ev_rep hs x)
    exact ⟨z, w', φ', by simp only [execOp, ho]; rw [Sem.run_bind, hz]; rfl, b1, b2, b3⟩
  case h_18 t parts ho =>
    simp only [Option.map_eq_some_iff, Prod.mk.injEq] at h
    obtain ⟨u, hu, rfl, rfl⟩ := h
    refine awpOp_still hd (fun F φ a w hs => ?_) hK
    obtain ⟨z, hz, hv⟩ := tvBuild_ok (P := P) hu (parts_ok hs parts)
    exact ⟨z, by simp only [execOp, ho]; rw [Sem.run_bind, hz]; rfl, hv⟩
  case h_19 t n parts ho =>
    refine awpOp_value hd (fun F φ a w hs => ?_) hK
    obtain ⟨z, w', φ', hz, b1, b2, b3⟩ := tvBuildSlice_ok (P := P) hs.store h (parts_ok hs parts)
    exact ⟨z, w', φ', by simp only [execOp, ho]; rw [Sem.run_bind, hz]; rfl, b1, b2, b3⟩
  case h_20 t l c ho =>
    refine awpOp_value hd (fun F φ a w hs => ?_) hK
    obtain ⟨z, w', φ', hz, b1, b2, b3⟩ := tvMake_ok (P := P) hs.store h (ev_rep hs l) (ev_rep hs c)
    exact ⟨z, w', φ', by simp only [execOp, ho]; rw [Sem.run_bind, hz]; rfl, b1, b2, b3⟩
  case h_21 f l1 l2 ho =>
    simp at h
    obtain ⟨rfl, rfl⟩ := h
    refine awpOp_still hd (fun F φ a w hs => ?_) hK
    obtain ⟨a1, a2⟩ := args_ok hs l1
    obtain ⟨b1, b2⟩ := args_ok hs l2
    exact ⟨.func f (l1.map a.eval) (l2.map a.eval), by simp [execOp, ho, Instr.makeFunc], .fn _ _ _ _ _ (by simp) (by simp) (fun i hi v hv => a2 i hi v (by simpa using hv)) (fun i hi v hv => b2 i hi v (by simpa using hv))⟩
  case h_22 t x ho =>
    split at h
    · rename_i hcon
      split at h
      · rename_i c hc
        simp at h
        obtain ⟨rfl, rfl⟩ := h
        refine awpOp_still hd (fun F φ a w hs => ?_) hK
        have hr := ev_rep hs x
        rw [hc] at hr
        refine ⟨.iface t (a.eval x), by simp only [execOp, ho]; rw [Sem.run_bind, run_makeInterface w t _ hcon]; rfl, ?_⟩
        cases hr with
        | c _ _ hr => exact .c _ _ (.ifc t _ _ hr)
      · simp at h
        obtain ⟨rfl, rfl⟩ := h
        refine awpOp_still hd (fun F φ a w hs => ?_) hK
        exact ⟨.iface t (a.eval x), by simp only [execOp, ho]; rw [Sem.run_bind, run_makeInterface w t _ hcon]; rfl, .ifc t _ _ (ev_rep hs x)⟩
    · simp at h
  case h_23 c ho =>
    obtain ⟨callee, args, ats⟩ := c
    simp only at h
    split at h
    · split at h
      · rename_i x t hx ht
        simp only [Option.map_eq_some_iff, Prod.mk.injEq] at h
        obtain ⟨u, hu, rfl, rfl⟩ := h
        obtain rfl := toList_one hx
        obtain rfl := toList_one ht
        refine awpOp_still hd (fun F φ a w hs => ?_) hK
        obtain ⟨z, hz, hv⟩ := tvLen_ok (P := P) (ty := o.type) hs.store hu (ev_rep hs x)
        refine ⟨z, ?_, hv⟩
        obtain ⟨consts, hb⟩ := run_builtin (P := P) (a := a) (w := w) ho
        rw [hb]
        simp only [builtin]
        rw [Sem.run_bind]
        simp only [List.map_toArray, List.map_cons, List.map_nil]
        rw [hz]
        rfl
      · simp at h
    · simp only [Option.map_eq_some_iff, Prod.mk.injEq] at h
      obtain ⟨u, hu, rfl, rfl⟩ := h
      refine awpOp_still hd (fun F φ a w hs => ?_) hK
      obtain ⟨z, hz, hv⟩ := tvMax_ok (P := P) (ats := ats) (ty := o.type) hu (args_ok hs args)
      refine ⟨z, ?_, hv⟩
      obtain ⟨consts, hb⟩ := run_builtin (P := P) (a := a) (w := w) ho
      rw [hb]
      simp only [builtin]
      rw [Sem.run_bind, hz]
      rfl
    · simp only [Option.map_eq_some_iff, Prod.mk.injEq] at h
      obtain ⟨u, hu, rfl, rfl⟩ := h
      refine awpOp_still hd (fun F φ a w hs => ?_) hK
      obtain ⟨z, hz, hv⟩ := tvMin_ok (P := P) (ats := ats) (ty := o.type) hu (args_ok hs args)
      refine ⟨z, ?_, hv⟩
      obtain ⟨consts, hb⟩ := run_builtin (P := P) (a := a) (w := w) ho
      rw [hb]
      simp only [builtin]
      rw [Sem.run_bind, hz]
      rfl
    · split at h
      · rename_i s x t xt hx ht
        obtain rfl := toList_two hx
        obtain rfl := toList_two ht
        refine awpOp_value hd (fun F φ a w hs => ?_) hK
        obtain ⟨z, w', φ', hz, b1, b2, b3⟩ := tvAppend_ok (P := P) (ty := o.type) hs.store h (ev_rep hs s) (ev_rep hs x)
        refine ⟨z, w', φ', ?_, b1, b2, b3⟩
        obtain ⟨consts, hb⟩ := run_builtin (P := P) (a := a) (w := w) ho
        rw [hb]
        simp only [builtin]
        rw [Sem.run_bind]
        simp only [List.map_toArray, List.map_cons, List.map_nil]
        rw [hz]
        rfl
      · simp at h
    · split at h
      · rename_i s x t xt hx ht
        obtain rfl := toList_two hx
        obtain rfl := toList_two ht
        refine awpOp_value hd (fun F φ a w hs => ?_) hK
        obtain ⟨z, w', hz, b1, b2, b3⟩ := tvCopy_ok (P := P) (xt := xt) (ty := o.type) hs.store h (ev_rep hs s) (ev_rep hs x)
        refine ⟨z, w', φ, ?_, b2, b3, b1⟩
        obtain ⟨consts, hb⟩ := run_builtin (P := P) (a := a) (w := w) ho
        rw [hb]
        simp only [builtin]
        rw [Sem.run_bind]
        simp only [List.map_toArray, List.map_cons, List.map_nil]
        rw [hz]
        rfl
      · simp at h
    · simp at h
  case h_24 => simp at h
end
end Go.Sim
