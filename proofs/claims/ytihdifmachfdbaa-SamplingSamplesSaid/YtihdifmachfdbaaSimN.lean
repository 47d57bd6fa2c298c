/- A part of the proof: values and stores in plain Lean, and the rules by which a walk is taken. -/
import Derived.Test.YtihdifmachfdbaaSimMA
set_option autoImplicit false
set_option linter.unusedSimpArgs false
set_option linter.unusedVariables false
namespace Go.Sim
open Go

/-! ### a run of a program on values that are known: the evaluator -/
def lst (l : List TV) : Nat → TV := fun t => l.getD t .junk
def stL (l : List AObj) : Store := ⟨l.length, fun i => l[i]?⟩
def putL (l : List TV) : Option Tmp → TV → List TV
  | some d, v => l.set d v
  | none, _ => l

def listOf (g : Nat → Option AObj) : Nat → Nat → Option (List AObj)
  | 0, _ => some []
  | n + 1, i => match g i, listOf g n (i + 1) with
    | some o, some l => some (o :: l)
    | _, _ => none

def opL (P : Program) (T : List TV) (l : List AObj) (op : Op) : Option (TV × List AObj) := match evalPrim P (lst T) (stL l) op with
  | none => none
  | some (v, S') => match clsOf P op with
    | .pure | .rd | .shp => some (v, l)
    | _ => match listOf S'.get S'.next 0 with
      | some l' => some (v, l')
      | none => none

def stepL (P : Program) (call : FuncId → List TV → List AObj → Option (TV × List AObj)) (T : List TV) (l : List AObj) (op : Op) : Option (TV × List AObj) := match opL P T l op with
  | some r => some r
  | none => match callOf (lst T) op with
    | some (g, avs) => call g avs l
    | none => none

def runOps (P : Program) (call : FuncId → List TV → List AObj → Option (TV × List AObj)) (ops : Array Oper) : List Oper → List TV → List AObj → Option (List TV × List AObj)
  | [], T, l => some (T, l)
  | o :: os, T, l => match o.guard with
    | none => match stepL P call T l o.op with
      | some (v, l') => runOps P call ops os (putL T o.dst v) l'
      | none => none
    | some (j, want) => match guardVal ops (lst T) j with
      | some b => match b == some want with
        | true => match stepL P call T l o.op with
          | some (v, l') => runOps P call ops os (putL T o.dst v) l'
          | none => none
        | false => runOps P call ops os (putL T o.dst .und) l
      | none => none

def frzC (S : Store) : Nat → TV → Option CV
  | 0, _ => none
  | f + 1, .c v => some v
  | f + 1, .view id g off len => match S.at id g with
    | some (_, esz, cs) => if 0 < esz ∧ off + len * esz ≤ cs.length then match ((cs.drop off).take (len * esz)).mapM (frzC S f) with
        | some l => some (.sl len l)
        | none => none
      else none
    | none => none
  | _, _ => none

def frz (S : Store) : Nat → TV → Option TV
  | 0, _ => none
  | f + 1, .agg l => match l.mapM (frz S f) with
    | some l' => some (.agg l')
    | none => none
  | f + 1, .tup l => match l.mapM (frz S f) with
    | some l' => some (.tup l')
    | none => none
  | f + 1, .ptr id g off => match S.at id g with
    | some (_, _, cs) => match decide (off ≤ cs.length) with
      | true => match (cs.drop off).mapM (frzC S f) with
        | some l => some (.taddr l)
        | none => none
      | false => none
    | none => none
  | _ + 1, .taddr l => some (.taddr l)
  | f + 1, .fn g l1 l2 => match l1.mapM (frz S f), l2.mapM (frz S f) with
    | some m1, some m2 => some (.fn g m1 m2)
    | _, _ => none
  | f + 1, v => match frzC S (f + 1) v with
    | some u => some (.c u)
    | none => none

def flatC : CV → Bool
  | .int _ _ | .bool _ | .str _ | .nilptr | .nilsl | .nilif => true
  | _ => false
def flatB : Nat → TV → Bool
  | 0, _ => false
  | _, .c v => flatC v
  | f + 1, .tup l => l.all (flatB f)
  | _, _ => false

def closedB : Nat → TV → Bool
  | 0, _ => false
  | _, .c _ => true
  | _, .taddr _ => true
  | f + 1, .agg l => l.all (closedB f)
  | f + 1, .tup l => l.all (closedB f)
  | f + 1, .fn _ l1 l2 => l1.all (closedB f) && l2.all (closedB f)
  | _, _ => false

/-! a sound look whether two stores are the same -/
def eqL {α : Type} (e : α → α → Bool) : List α → List α → Bool
  | [], [] => true
  | x :: l, y :: l' => e x y && eqL e l l'
  | _, _ => false
def eqC : Nat → CV → CV → Bool
  | 0, _, _ => false
  | _ + 1, .int k n, .int k' n' => decide (k = k') && decide (n = n')
  | _ + 1, .bool a, .bool b => a == b
  | _ + 1, .nilptr, .nilptr | _ + 1, .nilsl, .nilsl | _ + 1, .nilmap, .nilmap | _ + 1, .nilfn, .nilfn | _ + 1, .nilif, .nilif => true
  | f + 1, .sl n l, .sl n' l' => decide (n = n') && eqL (eqC f) l l'
  | _, _, _ => false
def eqT : Nat → TV → TV → Bool
  | 0, _, _ => false
  | f + 1, .c v, .c v' => eqC f v v'
  | _ + 1, .ptr a b c, .ptr a' b' c' => decide (a = a') && decide (b = b') && decide (c = c')
  | _ + 1, .view a b c d, .view a' b' c' d' => decide (a = a') && decide (b = b') && decide (c = c') && decide (d = d')
  | _, _, _ => false
def eqO : AObj → AObj → Bool
  | .cells g et esz cs, .cells g' et' esz' cs' => decide (g = g') && decide (et = et') && decide (esz = esz') && eqL (eqT 8) cs cs'
  | _, _ => false

theorem eqL_ok {α : Type} {e : α → α → Bool} (he : ∀ x y, e x y = true → x = y) : ∀ (l l' : List α), eqL e l l' = true → l = l'
  | [], [], _ => rfl
  | [], _ :: _, h => by simp [eqL] at h
  | _ :: _, [], h => by simp [eqL] at h
  | x :: l, y :: l', h => by
    simp only [eqL, Bool.and_eq_true] at h
    rw [he x y h.1, eqL_ok he l l' h.2]
theorem eqC_ok : ∀ (f : Nat) (a b : CV), eqC f a b = true → a = b
  | 0, a, b, h => by simp [eqC] at h
  | f + 1, a, b, h => by
    cases a <;> cases b <;> simp [eqC] at h ⊢
    · exact h
    · exact h
    · exact ⟨h.1, eqL_ok (eqC_ok f) _ _ h.2⟩
theorem eqT_ok : ∀ (f : Nat) (a b : TV), eqT f a b = true → a = b
  | 0, a, b, h => by simp [eqT] at h
  | f + 1, a, b, h => by
    cases a <;> cases b <;> simp [eqT] at h ⊢
    · exact eqC_ok f _ _ h
    · simpa [and_assoc] using h
    · simpa [and_assoc] using h
theorem eqO_ok (a b : AObj) (h : eqO a b = true) : a = b := by
  cases a <;> cases b <;> simp [eqO] at h ⊢
  obtain ⟨⟨⟨h1, h2⟩, h3⟩, h4⟩ := h
  exact ⟨h1, h2, h3, eqL_ok (eqT_ok 8) _ _ h4⟩

def runF (P : Program) (run : Nat → Code → List TV → List AObj → Option (Exit × List TV × List AObj)) (g : FuncId) (avs : List TV) (l : List AObj) : Option (TV × List AObj) :=
  match P.funcs[g]? with
  | some fn => match fn.body with
    | some b => match isFunc P g && decide (avs.length ≤ fn.ntmps) with
      | true => match run fn.ntmps b (avs ++ List.replicate (fn.ntmps - avs.length) .junk) l with
        | some (.normal, T', l') | some (.ret, T', l') => match resAll P (lst T') (stL l') fn.results.toList with
          | some vs => some (pack vs, l')
          | none => none
        | _ => none
      | false => none
    | none => none
  | none => none

def runFC (P : Program) (run : Nat → Code → List TV → List AObj → Option (Exit × List TV × List AObj)) (g : FuncId) (avs : List TV) (l : List AObj) : Option (TV × List AObj) :=
  match avs.all (closedB 8) with
  | true => match runF P run g avs [] with
    | some (v, l') => match frz (stL l') 8 v with
      | some r => some (r, l)
      | none => none
    | none => none
  | false => none

/-- A call whose result is closed wherever that can be. -/
def runFF (P : Program) (run : Nat → Code → List TV → List AObj → Option (Exit × List TV × List AObj)) (g : FuncId) (avs : List TV) (l : List AObj) : Option (TV × List AObj) :=
  match avs.all (closedB 8) with
  | true => match runFC P run g avs l with
    | some r => some r
    | none => runF P run g avs l
  | false => runF P run g avs l

/-- A call that may read the store and leaves it as it is. -/
def runFS (P : Program) (run : Nat → Code → List TV → List AObj → Option (Exit × List TV × List AObj)) (g : FuncId) (avs : List TV) (l : List AObj) : Option (TV × List AObj) :=
  match avs.all (closedB 8) with
  | true => runFC P run g avs l
  | false => match avs.mapM (frz (stL l) 8) with
    | some favs => match runFC P run g favs [] with
      | some (v, _) => match flatB 8 v with
        | true => some (v, l)
        | false => none
      | none => none
    | none => none

/-- A scope: what is left of it is run anew at each jump. -/
def runSc (run : Code → List TV → List AObj → Option (Exit × List TV × List AObj)) (c : Code) : Nat → Code → List TV → List AObj → Option (Exit × List TV × List AObj)
  | 0, _, _, _ => none
  | n + 1, rest, T, l => match run rest T l with
    | some (.goto i, T', l') => match findLabel c i with
      | some rest' => runSc run c n rest' T' l'
      | none => none
    | r => r

/-- The place of the last call that is not of a plain builtin. -/
def lastCall (ops : Array Oper) : Nat := (ops.toList.foldl (fun (p : Nat × Nat) o => match o.op with
  | .call c => match c.callee with
    | .builtin .len | .builtin .max | .builtin .min => (p.1 + 1, p.2)
    | _ => (p.1 + 1, p.1)
  | _ => (p.1 + 1, p.2)) (0, 0)).2

def findH (P : Program) (ops : Array Oper) (k : Nat) : Option Nat := [0, 1, 2, 3].find? fun h => P.follows .mixedOrders && cutOk P false ops h k

def runCut (P : Program) (c1 c2 : FuncId → List TV → List AObj → Option (TV × List AObj)) (ops : Array Oper) (T : List TV) (l : List AObj) : Option (Exit × List TV × List AObj) := match findH P ops (lastCall ops) with
  | some h => match runOps P c1 ops (ops.toList.take h) T l with
    | some (T0, l0) => match runOps P c1 ops ((ops.toList.take (lastCall ops)).drop h) T0 l0 with
      | some (T1, l1) => match runOps P c2 ops (ops.toList.drop (lastCall ops)) T1 l1 with
        | some (T', l') => some (.normal, T', l')
        | none => none
      | none => none
    | none => none
  | none => none

def runC (P : Program) : Nat → Nat → Code → List TV → List AObj → Option (Exit × List TV × List AObj)
  | 0, _, _, _, _ => none
  | f + 1, N, c, T, l => match c with
    | .skip => some (.normal, T, l)
    | .label _ => some (.normal, T, l)
    | .exit i => some (.exit i, T, l)
    | .goto i => some (.goto i, T, l)
    | .ret => some (.ret, T, l)
    | .seq x y => match runC P f N x T l with
      | some (.normal, T', l') => runC P f N y T' l'
      | r => r
    | .cond c x y => match ev (lst T) c with
      | .c (.bool true) => runC P f N x T l
      | .c (.bool false) => runC P f N y T l
      | _ => none
    | .block i c => match runC P f N c T l with
      | some (.exit j, T', l') => match decide (j = i) with
        | true => some (.normal, T', l')
        | false => some (.exit j, T', l')
      | r => r
    | .loop c => match runC P f N c T l with
      | some (.normal, T', l') => runC P f N (.loop c) T' l'
      | r => r
    | .scope c => runSc (runC P f N) c f c T l
    | .region _ ops d => match ops.all (dstOk N) with
      | true => match d with
        | false => match runOps P (runFF P (runC P f)) ops ops.toList T l with
          | some (T', l') => some (.normal, T', l')
          | none => none
        | true => match P.follows .mixedOrders && drawOk P false ops with
          | true => match runOps P (runFS P (runC P f)) ops ops.toList T l with
            | some (T', l') => some (.normal, T', l')
            | none => runCut P (runFS P (runC P f)) (runFF P (runC P f)) ops T l
          | false => match P.follows .mixedOrders && drawOk P true ops with
            | true => match runOps P (runFC P (runC P f)) ops ops.toList T l with
              | some (T', l') => some (.normal, T', l')
              | none => runCut P (runFS P (runC P f)) (runFF P (runC P f)) ops T l
            | false => runCut P (runFS P (runC P f)) (runFF P (runC P f)) ops T l
      | false => none
    | _ => none

section
variable {P : Program} {N : Nat} {T : Nat → TV} {S S' : Store}

theorem fresh_stL (l : List AObj) : Fresh (stL l) := fun id h => List.getElem?_eq_none h

theorem append_fresh {t xt : TypeId} {s x v : TV} (hf : Fresh S) (h : tvAppend P S t xt s x = some (v, S')) : Fresh S' := by
  unfold tvAppend at h
  repeat' split at h
  all_goals first
    | (simp at h; done)
    | (simp at h; rw [← h.2]; exact hf)
    | (simp at h
       rw [← h.2]
       intro id hi
       rw [next_push] at hi
       rw [get_push, if_neg (by omega)]
       exact hf id (by omega))
    | (rename_i hat _ _
       have hlt := at_lt hf hat
       simp at h
       rw [← h.2]
       intro id hi
       rw [next_set] at hi
       rw [get_set, if_neg (by omega)]
       exact hf id hi)

theorem copy_fresh {t : TypeId} {s x v : TV} (hf : Fresh S) (h : tvCopy P S t s x = some (v, S')) : Fresh S' := by
  unfold tvCopy at h
  repeat' split at h
  all_goals first
    | (simp at h; done)
    | (simp at h; rw [← h.2]; exact hf)
    | (rename_i hat _ _
       have hlt := at_lt hf hat
       simp at h
       rw [← h.2]
       intro id hi
       rw [next_set] at hi
       rw [get_set, if_neg (by omega)]
       exact hf id hi)

theorem evalPrim_fresh {op : Op} {v : TV} (hf : Fresh S) (h : evalPrim P T S op = some (v, S')) : Fresh S' := by
  by_cases hc : clsOf P op = .other
  · cases op <;> simp only [clsOf] at hc <;> first
      | (simp at hc; done)
      | (simp [evalPrim] at h; done)
      | skip
    case slice t x lo hi mx => cases mx <;> simp at hc; simp [evalPrim] at h
    case convert s d x =>
      simp only [evalPrim] at h
      split at h
      · simp only [Option.some.injEq, Prod.mk.injEq] at h
        obtain ⟨_, rfl⟩ := h
        exact hf
      · simp only [Option.map_eq_some_iff, Prod.mk.injEq] at h
        obtain ⟨u, _, _, rfl⟩ := h
        exact hf
    case call c =>
      simp only [evalPrim] at h
      split at h
      · split at h
        · simp only [Option.map_eq_some_iff, Prod.mk.injEq] at h
          obtain ⟨u, _, _, rfl⟩ := h
          exact hf
        · simp at h
      · simp only [Option.map_eq_some_iff, Prod.mk.injEq] at h
        obtain ⟨u, _, _, rfl⟩ := h
        exact hf
      · simp only [Option.map_eq_some_iff, Prod.mk.injEq] at h
        obtain ⟨u, _, _, rfl⟩ := h
        exact hf
      · split at h
        · exact append_fresh hf h
        · simp at h
      · split at h
        · exact copy_fresh hf h
        · simp at h
      · simp at h
  · exact (exec_keeps hc hf (b := true) (.prim _ _ h)).2

theorem listOf_spec {g : Nat → Option AObj} : ∀ (n i : Nat) (l : List AObj), listOf g n i = some l → l.length = n ∧ ∀ k, k < n → l[k]? = g (i + k)
  | 0, i, l, h => by simp [listOf] at h; subst h; exact ⟨rfl, fun k hk => by omega⟩
  | n + 1, i, l, h => by
    simp only [listOf] at h
    split at h
    · rename_i o l' h1 h2
      simp at h
      subst h
      obtain ⟨a1, a2⟩ := listOf_spec n (i + 1) l' h2
      refine ⟨by simp [a1], fun k hk => ?_⟩
      cases k with
      | zero => simp [h1]
      | succ k =>
        simp only [List.getElem?_cons_succ]
        rw [a2 k (by omega)]
        congr 1
        omega
    · simp at h

theorem listOf_stL {l : List AObj} (hf : Fresh S) (h : listOf S.get S.next 0 = some l) : S = stL l := by
  obtain ⟨h1, h2⟩ := listOf_spec _ _ _ h
  cases S with
  | mk n g =>
    simp only at h h1 h2
    unfold stL
    congr 1
    · exact h1.symm
    · funext i
      rcases Nat.lt_or_ge i n with hl | hl
      · have := h2 i hl
        simpa using this.symm
      · rw [List.getElem?_eq_none (by omega)]
        exact hf i hl

theorem opL_ok {T : List TV} {l l' : List AObj} {op : Op} {v : TV} (h : opL P T l op = some (v, l')) : evalPrim P (lst T) (stL l) op = some (v, stL l') := by
  unfold opL at h
  split at h
  · simp at h
  · rename_i v' S' he
    have hfr := evalPrim_fresh (fresh_stL l) he
    split at h
    · rename_i hc
      simp at h
      obtain ⟨rfl, rfl⟩ := h
      rw [he, (pure_S hc he).1]
    · rename_i hc
      simp at h
      obtain ⟨rfl, rfl⟩ := h
      rw [he, read_S (.inl hc) he]
    · rename_i hc
      simp at h
      obtain ⟨rfl, rfl⟩ := h
      rw [he, read_S (.inr hc) he]
    · split at h
      · rename_i l2 hl
        simp at h
        obtain ⟨rfl, rfl⟩ := h
        rw [he, ← listOf_stL hfr hl]
      · simp at h

theorem lst_put {T : List TV} {d : Option Tmp} {v : TV} (hd : ∀ t, d = some t → t < T.length) : put (lst T) d v = lst (putL T d v) := by
  cases d with
  | none => rfl
  | some t =>
    funext i
    have := hd t rfl
    simp only [put, upd, lst, putL, List.getD_eq_getElem?_getD, List.getElem?_set]
    by_cases e : i = t
    · subst e; simp [this]
    · rw [if_neg e, if_neg (Ne.symm e)]

theorem putL_len {T : List TV} {d : Option Tmp} {v : TV} : (putL T d v).length = T.length := by cases d <;> simp [putL]

theorem dst_lt {o : Oper} {T : List TV} (hd : dstOk N o = true) (hl : T.length = N) : ∀ t, o.dst = some t → t < T.length := fun t e => by
  rw [hl]
  simpa [dstOk, e] using hd

def Calls1 (P : Program) (call : FuncId → List TV → List AObj → Option (TV × List AObj)) : Prop := ∀ g avs l v l', call g avs l = some (v, l') → isFunc P g = true ∧ ACall P g avs (stL l) fun r s => r = v ∧ s = stL l'
def Calls2 (P : Program) (b : Bool) (call : FuncId → List TV → List AObj → Option (TV × List AObj)) : Prop := ∀ g avs l v l', call g avs l = some (v, l') → isFunc P g = true ∧ (CCall P g avs v ∨ (b = false ∧ ACall P g avs (stL l) fun r s => r = v ∧ s = stL l)) ∧ l' = l

variable {call : FuncId → List TV → List AObj → Option (TV × List AObj)} {ops : Array Oper}

theorem stepL_wp (hcall : Calls1 P call) {T : List TV} {l l' : List AObj} {o : Oper} {v : TV} {K : (Nat → TV) → Store → Prop} (hd : dstOk N o = true) (h : stepL P call T l o.op = some (v, l')) (hK : K (put (lst T) o.dst v) (stL l')) : stepWp P N o K (lst T) (stL l) := by
  unfold stepL at h
  split at h
  · rename_i r hr
    simp at h
    subst h
    exact .inl ⟨_, _, opL_ok hr, hK⟩
  · split at h
    · rename_i g avs hc
      obtain ⟨h1, h2⟩ := hcall _ _ _ _ _ h
      exact .inr (callOf_awpA hd hc h1 h2 fun r S' ⟨e1, e2⟩ => by subst e1 e2; exact hK)
    · simp at h

theorem stepL_D {b : Bool} (hcall : Calls2 P b call) {T : List TV} {l l' : List AObj} {o : Oper} {v : TV} {K : (Nat → TV) → Store → Prop} (h : stepL P call T l o.op = some (v, l')) (hK : K (put (lst T) o.dst v) (stL l')) : stepD P b o K (lst T) (stL l) := by
  unfold stepD
  unfold stepL at h
  split at h
  · rename_i r hr
    simp at h
    subst h
    rw [opL_ok hr]
    exact hK
  · split at h
    · rename_i g avs hc
      obtain ⟨h1, h2, rfl⟩ := hcall _ _ _ _ _ h
      split
      · rename_i v2 S2 he
        exfalso
        revert hc he
        cases o.op <;> simp [callOf, evalPrim]
        rename_i c
        cases c.callee <;> simp
      · exact ⟨g, avs, v, hc, h1, h2, hK⟩
    · simp at h

theorem runOps_wp (hcall : Calls1 P call) {T' : List TV} {l' : List AObj} : ∀ (os : List Oper) (T : List TV) (l : List AObj), (∀ o ∈ os, dstOk N o = true) → T.length = N → runOps P call ops os T l = some (T', l') →
    opsWp P N ops os (fun T2 S2 => T2 = lst T' ∧ S2 = stL l' ∧ T'.length = N) (lst T) (stL l)
  | [], T, l, hd, hl, h => by
    simp [runOps] at h
    obtain ⟨rfl, rfl⟩ := h
    exact ⟨rfl, rfl, hl⟩
  | o :: os, T, l, hd, hl, h => by
    have hd1 := hd o (by simp)
    have hd2 : ∀ o ∈ os, dstOk N o = true := fun x hx => hd x (by simp [hx])
    simp only [runOps] at h
    simp only [opsWp]
    split at h
    · rename_i hg
      simp only [hg]
      split at h
      · rename_i v l2 hs
        exact stepL_wp hcall hd1 hs (by rw [lst_put (dst_lt hd1 hl)]; exact runOps_wp hcall os _ _ hd2 (by rw [putL_len]; exact hl) h)
      · simp at h
    · rename_i j want hg
      simp only [hg]
      split at h
      · rename_i b hb
        simp only [hb]
        split at h
        · rename_i he
          rw [if_pos (by simpa using he)]
          split at h
          · rename_i v l2 hs
            exact stepL_wp hcall hd1 hs (by rw [lst_put (dst_lt hd1 hl)]; exact runOps_wp hcall os _ _ hd2 (by rw [putL_len]; exact hl) h)
          · simp at h
        · rename_i he
          rw [if_neg (by simpa using he), lst_put (dst_lt hd1 hl)]
          exact runOps_wp hcall os _ _ hd2 (by rw [putL_len]; exact hl) h
      · simp at h

theorem runOps_D {b : Bool} (hcall : Calls2 P b call) {T' : List TV} {l' : List AObj} : ∀ (os : List Oper) (T : List TV) (l : List AObj), (∀ o ∈ os, dstOk N o = true) → T.length = N → runOps P call ops os T l = some (T', l') →
    opsD P b ops os (fun T2 S2 => T2 = lst T' ∧ S2 = stL l' ∧ T'.length = N) (lst T) (stL l)
  | [], T, l, hd, hl, h => by
    simp [runOps] at h
    obtain ⟨rfl, rfl⟩ := h
    exact ⟨rfl, rfl, hl⟩
  | o :: os, T, l, hd, hl, h => by
    have hd1 := hd o (by simp)
    have hd2 : ∀ o ∈ os, dstOk N o = true := fun x hx => hd x (by simp [hx])
    simp only [runOps] at h
    simp only [opsD]
    split at h
    · rename_i hg
      simp only [hg]
      split at h
      · rename_i v l2 hs
        exact stepL_D hcall hs (by rw [lst_put (dst_lt hd1 hl)]; exact runOps_D hcall os _ _ hd2 (by rw [putL_len]; exact hl) h)
      · simp at h
    · rename_i j want hg
      simp only [hg]
      split at h
      · rename_i b hb
        simp only [hb]
        split at h
        · rename_i he
          rw [if_pos (by simpa using he)]
          split at h
          · rename_i v l2 hs
            exact stepL_D hcall hs (by rw [lst_put (dst_lt hd1 hl)]; exact runOps_D hcall os _ _ hd2 (by rw [putL_len]; exact hl) h)
          · simp at h
        · rename_i he
          rw [if_neg (by simpa using he), lst_put (dst_lt hd1 hl)]
          exact runOps_D hcall os _ _ hd2 (by rw [putL_len]; exact hl) h
      · simp at h

theorem mapM_some {α β : Type} {f : α → Option β} : ∀ {l : List α} {l' : List β}, l.mapM f = some l' → l.length = l'.length ∧ ∀ i (hi : i < l'.length) v, l[i]? = some v → f v = some l'[i]
  | [], l', h => by simp at h; subst h; simp
  | x :: l, l', h => by
    simp only [List.mapM_cons, Option.bind_eq_bind, Option.bind_eq_some_iff, Option.pure_def, Option.some.injEq] at h
    obtain ⟨c, hc, r, hr, rfl⟩ := h
    obtain ⟨a1, a2⟩ := mapM_some hr
    refine ⟨by simp [a1], fun i hi v hv => ?_⟩
    cases i with
    | zero => simp at hv; subst hv; simpa using hc
    | succ i => simpa using a2 i (by simpa using hi) v (by simpa using hv)

theorem frzC_ok : ∀ (f : Nat) (v : TV) (u : CV), frzC S f v = some u → Frz S v u
  | 0, v, u, h => by simp [frzC] at h
  | f + 1, v, u, h => by
    cases v <;> simp only [frzC] at h <;> first
      | (simp at h; done)
      | skip
    case c v => simp at h; subst h; exact .c v
    case view id g off len =>
      split at h
      · rename_i et esz cs hat
        split at h
        · rename_i hc
          split at h
          · rename_i l hm
            simp at h
            subst h
            obtain ⟨a1, a2⟩ := mapM_some hm
            have hl : l.length = len * esz := by rw [← a1]; simp; omega
            refine .view id g off len et esz cs l hat hl hc.1 hc.2 fun i hi v hv => frzC_ok f v _ (a2 i hi v ?_)
            rw [List.getElem?_take_of_lt (by omega), List.getElem?_drop]
            exact hv
          · simp at h
        · simp at h
      · simp at h

theorem frz_ok : ∀ (f : Nat) (v u : TV), frz S f v = some u → FrzT S v u
  | 0, v, u, h => by simp [frz] at h
  | f + 1, v, u, h => by
    cases v <;> simp only [frz] at h
    case ptr id g off =>
      split at h
      · rename_i et esz cs hat
        split at h
        · rename_i hd
          simp only [decide_eq_true_eq] at hd
          split at h
          · rename_i l hm
            simp at h
            subst h
            obtain ⟨a1, a2⟩ := mapM_some hm
            refine .ptr id g off et esz cs l hat (by rw [← a1]; simp; omega) fun i hi v hv => frzC_ok f v _ (a2 i hi v ?_)
            rw [List.getElem?_drop]
            exact hv
          · simp at h
        · simp at h
      · simp at h
    case taddr l => simp at h; subst h; exact .taddr l
    case fn g l1 l2 =>
      split at h
      · rename_i m1 m2 h1 h2
        simp at h
        subst h
        obtain ⟨a1, a2⟩ := mapM_some h1
        obtain ⟨b1, b2⟩ := mapM_some h2
        exact .fn g _ _ _ _ a1 b1 (fun i hi v hv => frz_ok f v _ (a2 i hi v hv)) fun i hi v hv => frz_ok f v _ (b2 i hi v hv)
      · simp at h
    case agg l =>
      split at h
      · rename_i l' hm
        simp at h
        subst h
        obtain ⟨a1, a2⟩ := mapM_some hm
        exact .agg _ _ a1 fun i hi v hv => frz_ok f v _ (a2 i hi v hv)
      · simp at h
    case tup l =>
      split at h
      · rename_i l' hm
        simp at h
        subst h
        obtain ⟨a1, a2⟩ := mapM_some hm
        exact .tup _ _ a1 fun i hi v hv => frz_ok f v _ (a2 i hi v hv)
      · simp at h
    all_goals
      split at h
      · rename_i w hw
        simp at h
        subst h
        exact .c _ _ (frzC_ok _ _ _ hw)
      · simp at h

theorem flatC_ok {v : CV} (h : flatC v = true) : FlatC v := by
  cases v <;> simp [flatC] at h <;> constructor
theorem flatB_ok : ∀ (f : Nat) (v : TV), flatB f v = true → Flat v
  | 0, v, h => by simp [flatB] at h
  | f + 1, v, h => by
    cases v <;> simp only [flatB] at h <;> first
      | (simp at h; done)
      | skip
    case c v => exact .c v (flatC_ok h)
    case tup l => exact .tup _ fun v hv => flatB_ok f v (List.all_eq_true.1 h v hv)

theorem closedB_ok : ∀ (f : Nat) (v : TV), closedB f v = true → Closed v
  | 0, v, h => by cases v <;> simp [closedB] at h
  | f + 1, v, h => by
    cases v <;> simp only [closedB] at h <;> first
      | (simp at h; done)
      | skip
    case c v => exact .c v
    case taddr l => exact .taddr l
    case agg l => exact .agg _ fun v hv => closedB_ok f v (List.all_eq_true.1 h v hv)
    case tup l => exact .tup _ fun v hv => closedB_ok f v (List.all_eq_true.1 h v hv)
    case fn g l1 l2 =>
      simp only [Bool.and_eq_true] at h
      exact .fn _ _ _ (fun v hv => closedB_ok f v (List.all_eq_true.1 h.1 v hv)) fun v hv => closedB_ok f v (List.all_eq_true.1 h.2 v hv)

def RunsTo (P : Program) (run : Nat → Code → List TV → List AObj → Option (Exit × List TV × List AObj)) : Prop := ∀ N c T l e T' l', run N c T l = some (e, T', l') → T.length = N →
  awp P N c (fun e2 T2 S2 => e2 = e ∧ T2 = lst T' ∧ S2 = stL l' ∧ T'.length = N) (lst T) (stL l)

theorem argT_pad (avs : List TV) (n : Nat) : argT avs = lst (avs ++ List.replicate n .junk) := by
  funext t
  simp only [argT, lst, List.getD_eq_getElem?_getD, List.getElem?_append]
  split
  · rfl
  · rename_i h
    rw [List.getElem?_eq_none (by omega)]
    simp only [List.getElem?_replicate]
    split <;> rfl

theorem runF_ok {run : Nat → Code → List TV → List AObj → Option (Exit × List TV × List AObj)} (hr : RunsTo P run) : Calls1 P (runF P run) := by
  intro g avs l v l' h
  unfold runF at h
  split at h
  · rename_i fn hfn
    split at h
    · rename_i b hb
      split at h
      · rename_i hgd
        simp only [Bool.and_eq_true, decide_eq_true_eq] at hgd
        refine ⟨hgd.1, acall_intro hfn rfl hb hgd.2 ?_⟩
        rw [argT_pad avs (fn.ntmps - avs.length)]
        have hlen : (avs ++ List.replicate (fn.ntmps - avs.length) TV.junk).length = fn.ntmps := by simp; omega
        split at h
        · rename_i T' l2 hrun
          split at h
          · rename_i vs hv
            simp at h
            obtain ⟨rfl, rfl⟩ := h
            refine awp_mono (hr _ _ _ _ _ _ _ hrun hlen) ?_
            rintro e T2 S2 ⟨rfl, rfl, rfl, _⟩
            exact ⟨vs, hv, rfl, rfl⟩
          · simp at h
        · rename_i T' l2 hrun
          split at h
          · rename_i vs hv
            simp at h
            obtain ⟨rfl, rfl⟩ := h
            refine awp_mono (hr _ _ _ _ _ _ _ hrun hlen) ?_
            rintro e T2 S2 ⟨rfl, rfl, rfl, _⟩
            exact ⟨vs, hv, rfl, rfl⟩
          · simp at h
        · simp at h
      · simp at h
    · simp at h
  · simp at h

theorem stL_nil : stL [] = Store.empty := by
  unfold stL Store.empty
  congr 1

theorem runFC_ok {run : Nat → Code → List TV → List AObj → Option (Exit × List TV × List AObj)} (hr : RunsTo P run) : Calls2 P true (runFC P run) := by
  intro g avs l v l' h
  unfold runFC at h
  split at h
  · rename_i hc
    split at h
    · rename_i v2 l2 hrun
      split at h
      · rename_i r hf
        simp at h
        obtain ⟨rfl, rfl⟩ := h
        obtain ⟨h1, h2⟩ := runF_ok hr _ _ _ _ _ hrun
        refine ⟨h1, .inl (ccall_of (fun v hv => closedB_ok 8 v (List.all_eq_true.1 hc v hv)) ?_), rfl⟩
        rw [stL_nil] at h2
        exact h2.mono fun r S' ⟨e1, e2⟩ => by subst e1 e2; exact frz_ok _ _ _ hf
      · simp at h
    · simp at h
  · simp at h

theorem runFF_ok {run : Nat → Code → List TV → List AObj → Option (Exit × List TV × List AObj)} (hr : RunsTo P run) : Calls1 P (runFF P run) := by
  intro g avs l v l' h
  unfold runFF at h
  split at h
  · split at h
    · rename_i r hrun
      injection h with h
      subst h
      obtain ⟨h1, h2, h3⟩ := runFC_ok hr _ _ _ _ _ hrun
      subst h3
      exact ⟨h1, (h2.resolve_right fun h => by simp at h) _⟩
    · exact runF_ok hr _ _ _ _ _ h
  · exact runF_ok hr _ _ _ _ _ h

theorem runFS_ok {run : Nat → Code → List TV → List AObj → Option (Exit × List TV × List AObj)} (hr : RunsTo P run) : Calls2 P false (runFS P run) := by
  intro g avs l v l' h
  unfold runFS at h
  split at h
  · obtain ⟨h1, h2, h3⟩ := runFC_ok hr _ _ _ _ _ h
    exact ⟨h1, .inl (h2.resolve_right fun h => by simp at h), h3⟩
  · split at h
    · rename_i favs hm
      obtain ⟨a1, a2⟩ := mapM_some hm
      split at h
      · rename_i v2 l2 hrun
        split at h
        · rename_i hfl
          simp at h
          obtain ⟨rfl, rfl⟩ := h
          obtain ⟨h1, h2, _⟩ := runFC_ok hr _ _ _ _ _ hrun
          exact ⟨h1, .inr ⟨rfl, acall_snap a1 (fun i hi v hv => frz_ok 8 _ _ (a2 i hi v hv)) (h2.resolve_right fun h => by simp at h) (flatB_ok 8 _ hfl)⟩, rfl⟩
        · simp at h
      · simp at h
    · simp at h

theorem runSc_ok {run : Code → List TV → List AObj → Option (Exit × List TV × List AObj)} {c : Code} {N : Nat} (hr : ∀ c T l e T' l', run c T l = some (e, T', l') → T.length = N → awp P N c (fun e2 T2 S2 => e2 = e ∧ T2 = lst T' ∧ S2 = stL l' ∧ T'.length = N) (lst T) (stL l))
    {T : List TV} {l : List AObj} {e : Exit} {T' : List TV} {l' : List AObj} (f : Nat) (h : runSc run c f c T l = some (e, T', l')) (hl : T.length = N) (he : ∀ i, e ≠ .goto i) : awp P N (.scope c) (fun e2 T2 S2 => e2 = e ∧ T2 = lst T' ∧ S2 = stL l' ∧ T'.length = N) (lst T) (stL l) := by
  have body : ∀ (n : Nat) (rest : Code) (T : List TV) (l : List AObj), runSc run c (n + 1) rest T l = some (e, T', l') → T.length = N →
      awp P N rest (Jump (fun i T2 S2 => ∃ m, m < n + 1 ∧ ∃ rest' T1 l1, findLabel c i = some rest' ∧ T2 = lst T1 ∧ S2 = stL l1 ∧ T1.length = N ∧ runSc run c m rest' T1 l1 = some (e, T', l')) (fun e2 T2 S2 => e2 = e ∧ T2 = lst T' ∧ S2 = stL l' ∧ T'.length = N)) (lst T) (stL l) := by
    intro n rest T l h hl
    simp only [runSc] at h
    split at h
    · rename_i i T1 l1 h1
      split at h
      · rename_i rest' hf
        refine awp_mono (hr _ _ _ _ _ _ h1 hl) ?_
        rintro e2 T2 S2 ⟨rfl, rfl, rfl, hl2⟩
        exact ⟨n, by omega, rest', T1, l1, hf, rfl, rfl, hl2, h⟩
      · simp at h
    · rename_i hne
      refine awp_mono (hr _ _ _ _ _ _ h hl) ?_
      rintro e2 T2 S2 ⟨rfl, rfl, rfl, hl2⟩
      cases e2 with
      | goto i => exact absurd rfl (he i)
      | _ => exact ⟨rfl, rfl, rfl, hl2⟩
  refine awp_scope (fun m i T2 S2 => ∃ rest' T1 l1, findLabel c i = some rest' ∧ T2 = lst T1 ∧ S2 = stL l1 ∧ T1.length = N ∧ runSc run c m rest' T1 l1 = some (e, T', l')) ?_ ?_
  · cases f with
    | zero => simp [runSc] at h
    | succ n =>
      refine awp_mono (body n c T l h hl) ?_
      intro e2 T2 S2 hq
      cases e2 with
      | goto i =>
        obtain ⟨m, _, hq⟩ := hq
        exact ⟨m, hq⟩
      | _ => exact hq
  · rintro m i T2 S2 ⟨rest', T1, l1, hf, rfl, rfl, hl1, h1⟩
    cases m with
    | zero => simp [runSc] at h1
    | succ n => exact ⟨rest', hf, body n rest' T1 l1 h1 hl1⟩

theorem runSc_goto {run : Code → List TV → List AObj → Option (Exit × List TV × List AObj)} {c : Code} : ∀ (f : Nat) (rest : Code) (T : List TV) (l : List AObj) (i : Nat) (T' : List TV) (l' : List AObj), runSc run c f rest T l ≠ some (.goto i, T', l')
  | 0, rest, T, l, i, T', l' => by simp [runSc]
  | n + 1, rest, T, l, i, T', l' => by
    simp only [runSc]
    split
    · split
      · exact runSc_goto n _ _ _ _ _ _
      · simp
    · rename_i hne
      intro h
      exact hne _ _ _ h

theorem runC_ok : ∀ f, RunsTo P (runC P f) := by
  intro f
  induction f using Nat.strongRecOn with
  | _ f ih =>
    intro N c T l e T' l' h hl
    cases f with
    | zero => simp [runC] at h
    | succ f =>
      have ih' := ih f (by omega)
      have ihF := runFF_ok ih'
      have ihC := runFC_ok ih'
      have ihS := runFS_ok ih'
      cases c with
      | skip =>
        simp [runC] at h
        obtain ⟨rfl, rfl, rfl⟩ := h
        exact awp_skip ⟨rfl, rfl, rfl, hl⟩
      | label i =>
        simp [runC] at h
        obtain ⟨rfl, rfl, rfl⟩ := h
        exact awp_label ⟨rfl, rfl, rfl, hl⟩
      | exit i =>
        simp [runC] at h
        obtain ⟨rfl, rfl, rfl⟩ := h
        exact awp_exit ⟨rfl, rfl, rfl, hl⟩
      | goto i =>
        simp [runC] at h
        obtain ⟨rfl, rfl, rfl⟩ := h
        exact awp_goto ⟨rfl, rfl, rfl, hl⟩
      | ret =>
        simp [runC] at h
        obtain ⟨rfl, rfl, rfl⟩ := h
        exact awp_ret ⟨rfl, rfl, rfl, hl⟩
      | seq x y =>
        simp only [runC] at h
        refine awp_seq ?_
        split at h
        · rename_i T1 l1 h1
          refine awp_mono (ih' N _ _ _ _ _ _ h1 hl) ?_
          rintro e2 T2 S2 ⟨rfl, rfl, rfl, hl2⟩
          exact ih' N _ _ _ _ _ _ h hl2
        · rename_i hne
          refine awp_mono (ih' N _ _ _ _ _ _ h hl) ?_
          rintro e2 T2 S2 ⟨rfl, rfl, rfl, hl2⟩
          cases e2 with
          | normal => exact absurd h (hne _ _)
          | _ => exact ⟨rfl, rfl, rfl, hl2⟩
      | cond c x y =>
        simp only [runC] at h
        split at h
        · rename_i hc
          exact awp_if hc (ih' N _ _ _ _ _ _ h hl)
        · rename_i hc
          exact awp_if hc (ih' N _ _ _ _ _ _ h hl)
        · simp at h
      | block i c =>
        simp only [runC] at h
        refine awp_block ?_
        split at h
        · rename_i j T1 l1 h1
          refine awp_mono (ih' N _ _ _ _ _ _ h1 hl) ?_
          rintro e2 T2 S2 ⟨rfl, rfl, rfl, hl2⟩
          simp only [InBlock]
          split at h
          · rename_i hd
            simp at h hd
            obtain ⟨rfl, rfl, rfl⟩ := h
            rw [if_pos hd]
            exact ⟨rfl, rfl, rfl, hl2⟩
          · rename_i hd
            simp at h hd
            obtain ⟨rfl, rfl, rfl⟩ := h
            rw [if_neg hd]
            exact ⟨rfl, rfl, rfl, hl2⟩
        · rename_i hne
          refine awp_mono (ih' N _ _ _ _ _ _ h hl) ?_
          rintro e2 T2 S2 ⟨rfl, rfl, rfl, hl2⟩
          cases e2 with
          | exit j => exact absurd h (hne _ _ _)
          | _ => exact ⟨rfl, rfl, rfl, hl2⟩
      | loop c =>
        refine awp_loop (fun n T S => n ≤ f + 1 ∧ ∃ T1 l1, T = lst T1 ∧ S = stL l1 ∧ T1.length = N ∧ runC P n N (.loop c) T1 l1 = some (e, T', l')) (f + 1) ⟨Nat.le_refl _, T, l, rfl, rfl, hl, h⟩ ?_
        rintro n T S ⟨hn, T1, l1, rfl, rfl, hl1, h1⟩
        cases n with
        | zero => simp [runC] at h1
        | succ m =>
          simp only [runC] at h1
          have ihm := ih m (by omega)
          split at h1
          · rename_i T2 l2 h2
            refine awp_mono (ihm N _ _ _ _ _ _ h2 hl1) ?_
            rintro e2 T3 S3 ⟨rfl, rfl, rfl, hl2⟩
            exact ⟨m, by omega, by omega, T2, l2, rfl, rfl, hl2, h1⟩
          · rename_i hne
            refine awp_mono (ihm N _ _ _ _ _ _ h1 hl1) ?_
            rintro e2 T3 S3 ⟨rfl, rfl, rfl, hl2⟩
            cases e2 with
            | normal => exact absurd h1 (hne _ _)
            | _ => exact ⟨rfl, rfl, rfl, hl2⟩
      | scope c =>
        simp only [runC] at h
        exact runSc_ok (fun c T l e T' l' h hl => ih' N c T l e T' l' h hl) f h hl fun i e => runSc_goto f c T l i T' l' (by rw [← e]; exact h)
      | region id ops d =>
        simp only [runC] at h
        split at h
        · rename_i hN
          have hdst : ∀ o ∈ ops.toList, dstOk N o = true := fun o ho => by
            rw [Array.all_eq_true] at hN
            obtain ⟨i, hi, rfl⟩ := List.getElem_of_mem ho
            exact hN i (by simpa using hi)
          split at h
          · split at h
            · rename_i T2 l2 hrun
              simp at h
              obtain ⟨rfl, rfl, rfl⟩ := h
              refine awp_region hN ?_
              have := runOps_wp ihF (ops := ops) ops.toList T l hdst hl hrun
              simpa using this
            · simp at h
          · have hcut : runCut P (runFS P (runC P f)) (runFF P (runC P f)) ops T l = some (e, T', l') → awp P N (.region id ops true) (fun e2 T2 S2 => e2 = e ∧ T2 = lst T' ∧ S2 = stL l' ∧ T'.length = N) (lst T) (stL l) := by
              intro h
              unfold runCut at h
              split at h
              · rename_i hh hf
                have hd := List.find?_some hf
                simp only [Bool.and_eq_true] at hd
                split at h
                · rename_i T0 l0 hrun0
                  split at h
                  · rename_i T1 l1 hrun1
                    split at h
                    · rename_i T2 l2 hrun2
                      simp at h
                      obtain ⟨rfl, rfl, rfl⟩ := h
                      refine awp_region_cut hd.1 hN hd.2 rfl rfl rfl ?_
                      refine opsD_mono _ ?_ (runOps_D ihS (ops := ops) (ops.toList.take hh) T l (fun o ho => hdst o (List.mem_of_mem_take ho)) hl hrun0)
                      rintro T3 S3 ⟨rfl, rfl, hl3⟩
                      refine opsD_mono _ ?_ (runOps_D ihS (ops := ops) ((ops.toList.take (lastCall ops)).drop hh) T0 l0 (fun o ho => hdst o (List.mem_of_mem_take (List.mem_of_mem_drop ho))) hl3 hrun1)
                      rintro T4 S4 ⟨rfl, rfl, hl4⟩
                      have := runOps_wp ihF (ops := ops) (ops.toList.drop (lastCall ops)) T1 l1 (fun o ho => hdst o (List.mem_of_mem_drop ho)) hl4 hrun2
                      simpa using this
                    · simp at h
                  · simp at h
                · simp at h
              · simp at h
            split at h
            · rename_i hd
              simp only [Bool.and_eq_true] at hd
              split at h
              · rename_i T2 l2 hrun
                simp at h
                obtain ⟨rfl, rfl, rfl⟩ := h
                refine awp_region_any hd.1 hN hd.2 ?_
                have := runOps_D ihS (ops := ops) ops.toList T l hdst hl hrun
                simpa using this
              · exact hcut h
            · split at h
              · rename_i hd
                simp only [Bool.and_eq_true] at hd
                split at h
                · rename_i T2 l2 hrun
                  simp at h
                  obtain ⟨rfl, rfl, rfl⟩ := h
                  refine awp_region_any hd.1 hN hd.2 ?_
                  have := runOps_D ihC (ops := ops) ops.toList T l hdst hl hrun
                  simpa using this
                · exact hcut h
              · exact hcut h
        · simp at h
      | _ => simp [runC] at h

/-- A call on closed values, run. -/
theorem ccall_run {g : FuncId} {avs : List TV} {r : TV} (f : Nat) (h : runFC P (runC P f) g avs [] = some (r, [])) : CCall P g avs r := (runFC_ok (runC_ok f) _ _ _ _ _ h).2.1.resolve_right fun h => by simp at h
end
end Go.Sim
