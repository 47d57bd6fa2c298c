/- A part of the proof: values and stores in plain Lean, and the rules by which a walk is taken. -/
import Derived.Test.YtihdifmachfdbaaSimAK
set_option autoImplicit false
set_option linter.unusedSimpArgs false
set_option linter.unusedVariables false
namespace Go.Sim
open Go

section
variable {P : Program} {F : Nat → Prop} {φ : Env} {S s : Store} {w : World} {n : Nat} {ρ : Nat → Nat}
/-- The frame rule for calls that leave new objects. -/
theorem acall_frameN {g : FuncId} {avs : List TV} {r : TV} {s' S' : Store} {n' : Nat} (hnn : n ≤ n') (hp : Part n ρ s S) (hρ : ∀ i, n ≤ i → i < n' → ρ i = S.next + (i - n)) (ha : ∀ v ∈ avs, Plain n v) (hc : ACall P g avs s fun r' s2 => r' = r ∧ s2 = s') (hr : Plain n' r) (hn' : s'.next = n') (hpl : ∀ i o, s'.get i = some o → PlainO n' o)
    (hS1 : ∀ i, i < n' → S'.get (ρ i) = (s'.get i).map (renA ρ)) (hS2 : ∀ j, Other n' ρ j → S'.get j = S.get j) (hS3 : S'.next = S.next + (n' - n)) :
    ACall P g (avs.map (renT ρ)) S fun r' S2 => r' = renT ρ r ∧ S2 = S' := by
  intro F φ w args hok hl
  have hok1 := part_ok hp hok
  have hm := mut_eq (F := F) (φ := φ) hp
  have hl1 : ListRep w (Mut (othF n ρ F φ S) (subEnv φ ρ) s) (subEnv φ ρ) s avs args.toList := by
    refine ⟨by rw [← hl.1]; simp, fun i hi y hy => ?_⟩
    rw [hm]
    have := hl.2 i (by simpa using hi) y hy
    simp only [List.getElem_map] at this
    exact rep_down hp (ha _ (List.getElem_mem hi)) this
  refine (hc _ _ w args hok1 hl1).mono ?_
  rintro e w' ⟨x, r', s2, φs, rfl, ⟨rfl, rfl⟩, hrep, hok', hx⟩
  have hltS0 : ∀ j o, S.get j = some o → j < S.next := fun j o h => by
    rcases Nat.lt_or_ge j S.next with h' | h'
    · exact h'
    · rw [hok.fresh j h'] at h; cases h
  have hup1 : ∀ j o, S.get j = some o → Other n ρ j → Other n' ρ j := fun j o h ho i hi => by
    by_cases hin : i < n
    · exact ho i hin
    · rw [hρ i (by omega) hi]
      have := hltS0 j o h
      omega
  have hdn : ∀ j, Other n' ρ j → Other n ρ j := fun j h i hi => h i (by omega)
  have hinj' : ∀ i j, i < n' → j < n' → ρ i = ρ j → i = j := fun i j hi hj e => by
    by_cases h1 : i < n <;> by_cases h2 : j < n
    · exact hp.inj i j h1 h2 e
    · have := hp.lt i h1; rw [hρ j (by omega) hj] at e; omega
    · have := hp.lt j h2; rw [hρ i (by omega) hi] at e; omega
    · rw [hρ i (by omega) hi, hρ j (by omega) hj] at e; omega
  have hin : ∀ i, i < n' → (upEnv n' ρ φ φs).blk (ρ i) = φs.blk i ∧ (upEnv n' ρ φ φs).base (ρ i) = φs.base i ∧ (upEnv n' ρ φ φs).sz (ρ i) = φs.sz i := fun i hi => upEnv_in hinj' hi
  have hlt' : ∀ i o, s2.get i = some o → i < n' := fun i o h => by
    rcases Nat.lt_or_ge i n' with h' | h'
    · exact h'
    · rw [hok'.fresh i (by rw [hn']; exact h')] at h; cases h
  have hob : ∀ i o, s2.get i = some o → S'.get (ρ i) = some (renA ρ o) := fun i o h => by rw [hS1 i (hlt' i o h), h]; rfl
  have hltS : ∀ j o, S.get j = some o → φ.blk j < w.heap.size := fun j o h => by
    have := hok.obj j o h
    cases o with
    | cells g et esz cs => obtain ⟨arr, h1, _⟩ := this; exact (Array.getElem?_eq_some_iff.1 h1).1
    | map es c => obtain ⟨arr, h1, _⟩ := this; exact (Array.getElem?_eq_some_iff.1 h1).1
  have hm2 : Mut (othF n ρ F φ S) φs s2 = Mut F (upEnv n' ρ φ φs) S' := by
    funext b
    apply propext
    constructor
    · rintro ((hF | ⟨j, o, h1, h2, h3⟩) | ⟨i, o, h1, h2⟩)
      · exact .inl hF
      · have h2' := hup1 j o h1 h2
        exact .inr ⟨j, o, by rw [hS2 j h2']; exact h1, by rw [(upEnv_out h2').1]; exact h3⟩
      · exact .inr ⟨ρ i, _, hob i o h1, by rw [(hin i (hlt' i o h1)).1]; exact h2⟩
    · rintro (hF | ⟨j, o, h1, h2⟩)
      · exact .inl (.inl hF)
      · rcases image_or n' ρ j with ⟨i, hi, rfl⟩ | ho
        · rw [hS1 i hi] at h1
          cases hs : s2.get i with
          | none => rw [hs] at h1; cases h1
          | some o' => exact .inr ⟨i, o', hs, by rw [← (hin i hi).1]; exact h2⟩
        · exact .inl (.inr ⟨j, o, by rw [← hS2 j ho]; exact h1, hdn j ho, by rw [← (upEnv_out (φs := φs) ho).1]; exact h2⟩)
  have hkept : ∀ b, b < w.heap.size → ¬ Mut F φ S b → w'.heap[b]? = w.heap[b]? := fun b hb h => hx.kept b hb fun hl => h (by rw [← hm]; exact .inr hl)
  have hless : ∀ b, b < w.heap.size → Mut F (upEnv n' ρ φ φs) S' b → Mut F φ S b := fun b hb h => by
    rw [← hm2] at h
    rw [← hm]
    exact Mut.of_ext hx b hb h
  have hobjs : ∀ id o, S.get id = some o → ∃ o', S'.get id = some o' ∧ o.gen ≤ o'.gen ∧ o'.sort = o.sort ∧ (o.gen = o'.gen → (upEnv n' ρ φ φs).blk id = φ.blk id ∧ (upEnv n' ρ φ φs).base id = φ.base id ∧ (upEnv n' ρ φ φs).sz id = φ.sz id) := fun id o h => by
    rcases image_or n ρ id with ⟨i, hi, rfl⟩ | ho
    · rw [hp.objs i hi] at h
      cases hs : s.get i with
      | none => rw [hs] at h; cases h
      | some o1 =>
        rw [hs] at h
        injection h with h
        subst h
        obtain ⟨o2, q1, q2, q3, q4⟩ := hx.objs i o1 hs
        refine ⟨renA ρ o2, hob i o2 q1, by rw [renA_gen, renA_gen]; exact q2, by rw [renA_sort, renA_sort]; exact q3, fun e => ?_⟩
        rw [renA_gen, renA_gen] at e
        obtain ⟨z1, z2, z3⟩ := q4 e
        obtain ⟨y1, y2, y3⟩ := hin i (by omega)
        exact ⟨y1.trans z1, y2.trans z2, y3.trans z3⟩
    · have ho' := hup1 id o h ho
      exact ⟨o, by rw [hS2 id ho']; exact h, Nat.le_refl _, rfl, fun _ => upEnv_out ho'⟩
  have hmono : ∀ v x, TRep w (Mut F φ S) φ S v x → TRep w' (Mut F (upEnv n' ρ φ φs) S') (upEnv n' ρ φ φs) S' v x := fun v x h => h.mono hkept hless hobjs
  have hup : ∀ m v x, Plain m v → TRep w' (Mut (othF n ρ F φ S) φs s2) φs s2 v x → TRep w' (Mut F (upEnv n' ρ φ φs) S') (upEnv n' ρ φ φs) S' (renT ρ v) x := fun m v x hv h => by
    rw [hm2] at h
    exact rep_up hob (fun i o h => hin i (hlt' i o h)) hv h
  refine ⟨x, _, S', upEnv n' ρ φ φs, rfl, ⟨rfl, rfl⟩, hup n' _ x hr hrep, ⟨fun j o h => ?_, fun j hj => ?_, fun i j o o' h1 h2 he => ?_, fun j o h => ?_, fun b hb => Nat.lt_of_lt_of_le (hok.old b hb) hx.size⟩, ⟨hx.size, ?_, ?_, hobjs, hx.os, hx.tape, hx.output⟩⟩
  · rcases image_or n' ρ j with ⟨i, hi, rfl⟩ | ho
    · rw [hS1 i hi] at h
      cases hs : s2.get i with
      | none => rw [hs] at h; cases h
      | some o1 =>
        rw [hs] at h
        injection h with h
        subst h
        have := hok'.obj i o1 hs
        have hq := hpl i o1 hs
        obtain ⟨y1, y2, y3⟩ := hin i hi
        cases o1 with
        | cells g et esz cs =>
          obtain ⟨arr, a1, a2, a3, a4⟩ := this
          refine ⟨arr, by rw [y1]; exact a1, by rw [y3]; exact a2, by rw [y2]; simpa using a3, fun k hk v hv => ?_⟩
          rw [y2] at hv
          have := a4 k (by simpa using hk) v hv
          simp only [List.getElem_map, renT_one]
          exact ⟨this.1, hup n' _ v (hq _ (List.getElem_mem _)) this.2⟩
        | map es c =>
          obtain ⟨arr, a1, a2, a3⟩ := this
          refine ⟨arr, by rw [y1]; exact a1, by simpa using a2, fun k hk e he => ?_⟩
          have := a3 k (by simpa using hk) e he
          obtain ⟨p1, p2⟩ := hq _ (List.getElem_mem (by simpa using hk : k < es.length))
          simp only [List.getElem_map]
          exact ⟨hup n' _ _ p1 this.1, hup n' _ _ p2 this.2.1, this.2.2⟩
    · rw [hS2 j ho] at h
      have := hok.obj j o h
      obtain ⟨y1, y2, y3⟩ := upEnv_out (φ := φ) (φs := φs) ho
      have hb := hltS j o h
      have hsame : w'.heap[φ.blk j]? = w.heap[φ.blk j]? := hx.kept _ hb fun ⟨i, o2, q1, q2⟩ => by
        have hi : i < n := by
          rcases Nat.lt_or_ge i n with h' | h'
          · exact h'
          · rw [hp.fresh i h'] at q1; cases q1
        have q3 : S.get (ρ i) = some (renA ρ o2) := by rw [hp.objs i hi, q1]; rfl
        exact ho i (by omega) (hok.inj _ _ _ _ q3 h q2)
      cases o with
      | cells g et esz cs =>
        obtain ⟨arr, a1, a2, a3, a4⟩ := this
        exact ⟨arr, by rw [y1, hsame]; exact a1, by rw [y3]; exact a2, by rw [y2]; exact a3, fun k hk v hv => by rw [y2] at hv; exact ⟨(a4 k hk v hv).1, hmono _ _ (a4 k hk v hv).2⟩⟩
      | map es c =>
        obtain ⟨arr, a1, a2, a3⟩ := this
        exact ⟨arr, by rw [y1, hsame]; exact a1, a2, fun k hk e he => ⟨hmono _ _ (a3 k hk e he).1, hmono _ _ (a3 k hk e he).2.1, (a3 k hk e he).2.2⟩⟩
  · rw [hS3] at hj
    rcases image_or n' ρ j with ⟨i, hi, rfl⟩ | ho
    · by_cases h1 : i < n
      · have := hp.lt i h1
        omega
      · rw [hρ i (by omega) hi] at hj
        omega
    · rw [hS2 j ho]
      exact hok.fresh j (by omega)
  · have key : ∀ a b oa ob, (∃ i, i < n' ∧ ρ i = a) → Other n' ρ b → S'.get a = some oa → S'.get b = some ob → (upEnv n' ρ φ φs).blk a ≠ (upEnv n' ρ φ φs).blk b := by
      rintro a b oa ob ⟨i, hi, rfl⟩ hb q1 q2 he
      rw [hS1 i hi] at q1
      cases hs : s2.get i with
      | none => rw [hs] at q1; cases q1
      | some o1 =>
        refine hok'.far i o1 hs (.inr ⟨b, ob, by rw [← hS2 b hb]; exact q2, hdn b hb, ?_⟩)
        rw [(hin i hi).1, (upEnv_out hb).1] at he
        exact he.symm
    rcases image_or n' ρ i with hi | hi <;> rcases image_or n' ρ j with hj | hj
    · obtain ⟨i, hi, rfl⟩ := hi
      obtain ⟨j, hj, rfl⟩ := hj
      rw [hS1 i hi] at h1
      rw [hS1 j hj] at h2
      cases hs1 : s2.get i with
      | none => rw [hs1] at h1; cases h1
      | some o1 =>
        cases hs2 : s2.get j with
        | none => rw [hs2] at h2; cases h2
        | some o2 =>
          rw [(hin i hi).1, (hin j hj).1] at he
          rw [hok'.inj i j o1 o2 hs1 hs2 he]
    · exact absurd he (key i j o o' hi hj h1 h2)
    · exact absurd he.symm (key j i o' o hj hi h2 h1)
    · rw [hS2 i hi] at h1
      rw [hS2 j hj] at h2
      rw [(upEnv_out hi).1, (upEnv_out hj).1] at he
      exact hok.inj i j o o' h1 h2 he
  · rcases image_or n' ρ j with ⟨i, hi, rfl⟩ | ho
    · rw [hS1 i hi] at h
      cases hs : s2.get i with
      | none => rw [hs] at h; cases h
      | some o1 =>
        rw [(hin i hi).1]
        exact fun hF => hok'.far i o1 hs (.inl hF)
    · rw [hS2 j ho] at h
      rw [(upEnv_out ho).1]
      exact hok.far j o h
  · intro b hb hl
    refine hx.kept b hb fun ⟨i, o, q1, q2⟩ => hl ?_
    have hi : i < n := by
      rcases Nat.lt_or_ge i n with h' | h'
      · exact h'
      · rw [hp.fresh i h'] at q1; cases q1
    exact ⟨ρ i, renA ρ o, by rw [hp.objs i hi, q1]; rfl, q2⟩
  · rintro b hb ⟨j, o, h1, h2⟩
    rcases image_or n' ρ j with ⟨i, hi, rfl⟩ | ho
    · rw [hS1 i hi] at h1
      cases hs : s2.get i with
      | none => rw [hs] at h1; cases h1
      | some o1 =>
        rw [(hin i hi).1] at h2
        obtain ⟨k, o3, q1, q2⟩ := hx.liv b hb ⟨i, o1, hs, h2⟩
        have hk : k < n := by
          rcases Nat.lt_or_ge k n with h' | h'
          · exact h'
          · rw [hp.fresh k h'] at q1; cases q1
        exact ⟨ρ k, renA ρ o3, by rw [hp.objs k hk, q1]; rfl, q2⟩
    · rw [hS2 j ho] at h1
      rw [(upEnv_out ho).1] at h2
      exact ⟨j, o, h1, h2⟩
end

/-! calls that leave new objects, by symbols -/
section
variable {P : Program} {N : Nat} {V : Nat → SV} {L L' : List SObj}
theorem setL_in' : ∀ (ρ : List Nat) (L1 L : List SObj) (i : Nat), ρ.Nodup → ρ.length ≤ L1.length → (∀ j ∈ ρ, j < L.length) → i < ρ.length → (setL ρ L1 L).getD (atL ρ i) .gone = L1.getD i .gone
  | [], _, L, i, _, _, _, h => by simp at h
  | k :: ρ, [], L, i, _, h, _, _ => by simp at h
  | k :: ρ, o :: L1, L, 0, hn, hl, hb, h => by
    have := List.nodup_cons.1 hn
    simp only [atL, List.getD_cons_zero]
    rw [setL, setL_out ρ L1 _ k this.1]
    have hk := hb k (by simp)
    simp [List.getD_eq_getElem?_getD, hk]
  | k :: ρ, o :: L1, L, i + 1, hn, hl, hb, h => by
    have := List.nodup_cons.1 hn
    rw [setL]
    have := setL_in' ρ L1 (L.set k o) i this.2 (by simpa using hl) (fun j hj => by simpa using hb j (by simp [hj])) (by simpa using h)
    simpa [atL] using this
def extL (ρ : List Nat) (k m : Nat) : List Nat := ρ ++ (List.range m).map (k + ·)
theorem extL_old {ρ : List Nat} {k m i : Nat} (h : i < ρ.length) : atL (extL ρ k m) i = atL ρ i := by
  simp only [atL, extL, List.getD_eq_getElem?_getD]
  rw [List.getElem?_append_left h]
theorem extL_new {ρ : List Nat} {k m i : Nat} (h : ρ.length ≤ i) (h' : i < ρ.length + m) : atL (extL ρ k m) i = k + (i - ρ.length) := by
  simp only [atL, extL, List.getD_eq_getElem?_getD]
  rw [List.getElem?_append_right h, List.getElem?_map, List.getElem?_range (by omega)]
  rfl

theorem acall_scn {g : FuncId} {avs favs favs' : List SV} {r r' : SV} {L0 L1 : List SObj} (ρ : List Nat) (hA : SC P g favs L0 r L1) (hn1 : Nat.ble ρ.length L1.length = true) (hb : ρ.all (fun i => Nat.blt i L.length) = true) (hd : newB ρ = true)
    (h0 : L0.all okO = true) (h1 : L1.all okO = true) (ha : favs.all (okS ρ.length) = true) (hr : okS L1.length r = true) (hs : subL ρ L0 L)
    (hf : forceL (favs.map (renS ρ)) some = some favs') (hw : ArgsW avs favs') (hr' : forceV (renS (extL ρ L.length (L1.length - ρ.length)) r) some = some r') (hL : forceO (setL ρ L1 L ++ L1.drop ρ.length) some = some L') :
    ACall P g (avs.map SV.out) (outS L) fun r2 S' => r2 = r'.out ∧ S' = outS L' := by
  rw [forceL_eq] at hf
  rw [forceV_eq] at hr'
  rw [forceO_eq] at hL
  injection hf with hf
  injection hr' with hr'
  injection hL with hL
  subst hf hr' hL
  refine acall_argw hw ?_
  obtain ⟨hl0, hs2⟩ := subL_get hs
  have hn1' := Nat.le_of_ble_eq_true hn1
  generalize hρ' : extL ρ L.length (L1.length - ρ.length) = ρ'
  have hold : ∀ i, i < ρ.length → atL ρ' i = atL ρ i := fun i hi => by rw [← hρ']; exact extL_old hi
  have hnew : ∀ i, ρ.length ≤ i → i < L1.length → atL ρ' i = L.length + (i - ρ.length) := fun i h h' => by rw [← hρ']; exact extL_new h (by omega)
  have hb' : ∀ j ∈ ρ, j < L.length := fun j hj => Nat.le_of_ble_eq_true (List.all_eq_true.1 hb j hj)
  have hnd := newB_ok hd
  have hat : ∀ i, i < ρ.length → atL ρ i ∈ ρ := fun i hi => by simp [atL, List.getD_eq_getElem?_getD, hi]
  have hga : ∀ (L' : List SObj), L'.all okO = true → ∀ i, okO (L'.getD i .gone) = true := fun L' h i => by
    rw [List.getD_eq_getElem?_getD]
    cases hi : L'[i]? with
    | none => rfl
    | some o => exact List.all_eq_true.1 h o (List.mem_of_getElem? hi)
  have hren : ∀ (L' : List SObj), L'.all okO = true → ∀ i, ((outS L').get i).map (renA (atL ρ')) = (outS L').get i := fun L' h i => by
    rw [outS_get]
    cases ho : (L'.getD i .gone).out with
    | none => rfl
    | some a => simp [(okO_ok (atL ρ') 0 (hga L' h i) ho).1]
  have hpl : ∀ (m : Nat) (L' : List SObj), L'.all okO = true → ∀ i o, (outS L').get i = some o → PlainO m o := fun m L' h i o ho => by
    rw [outS_get] at ho
    exact (okO_ok (atL ρ') _ (hga L' h i) ho).2
  have hpart : Part ρ.length (atL ρ') (outS L0) (outS L) := by
    refine ⟨hl0, fun i hi => ?_, fun i j hi hj e => ?_, fun i hi => by rw [hold i hi]; exact hb' _ (hat i hi), fun i hi => ?_, hpl _ L0 h0⟩
    · rw [hren L0 h0, outS_get, outS_get, hold i hi]
      exact hs2 i hi
    · rw [hold i hi, hold j hj] at e
      simp only [atL, List.getD_eq_getElem?_getD, List.getElem?_eq_getElem hi, List.getElem?_eq_getElem hj, Option.getD_some] at e
      exact (List.getElem_inj hnd).1 e
    · rw [outS_get, List.getD_eq_getElem?_getD, List.getElem?_eq_none (by omega)]
      rfl
  have hren1 : ∀ v : SV, okS1 ρ.length v = true → (renS1 ρ v) = renS1 ρ' v := fun v hv => by
    cases v with
    | ptr id g off => simp only [renS1]; rw [hold id (Nat.le_of_ble_eq_true hv)]
    | view id g off len => simp only [renS1]; rw [hold id (Nat.le_of_ble_eq_true hv)]
    | _ => rfl
  have hren2 : ∀ v : SV, okS ρ.length v = true → (renS ρ v) = renS ρ' v := fun v hv => by
    cases v
    case ptr => exact hren1 (.ptr _ _ _) hv
    case view => exact hren1 (.view _ _ _ _) hv
    case tup l =>
      simp only [okS, List.all_eq_true] at hv
      simp only [renS]
      congr 1
      exact List.map_congr_left fun u hu => hren1 u (hv u hu)
    all_goals rfl
  have hargs : (favs.map (renS ρ)).map SV.out = (favs.map SV.out).map (renT (atL ρ')) := by
    simp only [List.map_map]
    refine List.map_congr_left fun v hv => ?_
    show (renS ρ v).out = renT (atL ρ') v.out
    rw [hren2 v (List.all_eq_true.1 ha v hv)]
    exact (okS_ok (List.all_eq_true.1 ha v hv)).2
  rw [hargs]
  have hlen : (setL ρ L1 L).length = L.length := setL_len ρ L1 L
  have gl : ∀ j, j < L.length → (setL ρ L1 L ++ L1.drop ρ.length).getD j .gone = (setL ρ L1 L).getD j .gone := fun j hj => by
    simp only [List.getD_eq_getElem?_getD]
    rw [List.getElem?_append_left (by omega)]
  have gr : ∀ k, (setL ρ L1 L ++ L1.drop ρ.length).getD (L.length + k) .gone = L1.getD (ρ.length + k) .gone := fun k => by
    simp only [List.getD_eq_getElem?_getD]
    rw [List.getElem?_append_right (by omega), hlen, List.getElem?_drop]
    congr 3
    omega
  have := acall_frameN (n' := L1.length) (S' := outS (setL ρ L1 L ++ L1.drop ρ.length)) hn1' hpart hnew (fun v hv => by
    obtain ⟨u, hu, rfl⟩ := List.mem_map.1 hv
    exact (okS_ok (ρ := ρ') (List.all_eq_true.1 ha u hu)).1) hA (okS_ok (ρ := ρ') hr).1 rfl (hpl _ L1 h1)
    (fun i hi => by
      rw [hren L1 h1, outS_get, outS_get]
      by_cases hin : i < ρ.length
      · rw [hold i hin, gl _ (hb' _ (hat i hin)), setL_in' ρ L1 L i hnd hn1' hb' hin]
      · rw [hnew i (by omega) hi, gr, show ρ.length + (i - ρ.length) = i by omega])
    (fun j hj => by
      rw [outS_get, outS_get]
      rcases Nat.lt_or_ge j L.length with h | h
      · rw [gl j h, setL_out ρ L1 L j fun hm => by
          obtain ⟨i, hi, e⟩ := List.getElem_of_mem hm
          exact hj i (by omega) (by rw [hold i hi]; simp [atL, List.getD_eq_getElem?_getD, hi, e])]
      · have hk : L1.length - ρ.length ≤ j - L.length := by
          rcases Nat.lt_or_ge (j - L.length) (L1.length - ρ.length) with h2 | h2
          · exact absurd (by rw [hnew (ρ.length + (j - L.length)) (by omega) (by omega)]; omega) (hj (ρ.length + (j - L.length)) (by omega))
          · exact h2
        have e : j = L.length + (j - L.length) := by omega
        rw [e, gr]
        simp only [List.getD_eq_getElem?_getD]
        rw [List.getElem?_eq_none (by omega), List.getElem?_eq_none (by omega)])
    (by simp [outS, setL_len]; try omega)
  rw [← (okS_ok (ρ := ρ') hr).2] at this
  exact this
theorem scn {K : (Nat → TV) → Store → Prop} {ops : Array Oper} {o : Oper} {os : List Oper} {d : Tmp} {g : FuncId} {avs favs favs' : List SV} {r r' : SV} {L0 L1 : List SObj} (ρ : List Nat) (hA : SC P g favs L0 r L1) (hg : o.guard = none) (hd : o.dst = some d) (hN : dstOk N o = true)
    (hc : callS V o.op = some (g, avs)) (hfn : isFunc P g = true) (hn1 : Nat.ble ρ.length L1.length = true) (hb : ρ.all (fun i => Nat.blt i L.length) = true) (hnd : newB ρ = true)
    (h0 : L0.all okO = true) (h1 : L1.all okO = true) (ha : favs.all (okS ρ.length) = true) (hr : okS L1.length r = true)
    (hf : forceL (favs.map (renS ρ)) some = some favs') (hr' : forceV (renS (extL ρ L.length (L1.length - ρ.length)) r) some = some r') (hL : forceO (setL ρ L1 L ++ L1.drop ρ.length) some = some L') (hs : subL ρ L0 L) (hw : ArgsW avs favs')
    (hk : opsWp P N ops os K (outT (putS V (some d) r')) (outS L')) : opsWp P N ops (o :: os) K (outT V) (outS L) := by
  refine ops_acall hg (callS_prim hc _ _) (callS_ok hc) hN hfn (acall_scn ρ hA hn1 hb hnd h0 h1 ha hr hs hf hw hr' hL) ?_
  rintro _ _ ⟨rfl, rfl⟩
  rw [outT_put, hd]
  exact hk
end
end Go.Sim
