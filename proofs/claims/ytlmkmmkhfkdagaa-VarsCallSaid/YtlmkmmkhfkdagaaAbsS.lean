/- The abstract layer, part S: a function's contract out of its body. -/
import Derived.Test.YtlmkmmkhfkdagaaAbsQ
set_option linter.unusedVariables false
set_option linter.unusedSimpArgs false
namespace Go.Abs
open Go.RowKit

section
variable {P : Program} {G : Gh} {w : World} {A : Nat → Prop} {h : Heap}

/-- An object is turned into what the abstract heap does not speak of. -/
theorem kill_obj (S : SatH G w A h) {id : Nat} {o : AObj} (hl : look id h = some o) {a : Addr} (ha : G.loc id = some a) {w' : World}
    (hos : w'.os = w.os) (htp : w'.tape = w.tape) (hout : w'.output = w.output) (hsz : w'.heap.size = w.heap.size)
    (hfr : ∀ b, b ≠ a.block → w'.heap[b]? = w.heap[b]?) : SatH G w' A (del id h) ∧ Evo G w A h G w' A (del id h) := by
  have hz : ∀ b, G.Z b → b ≠ a.block := fun b hb e => S.zdis id o a hl ha (e ▸ hb)
  have hsub : ∀ i o, look i (del id h) = some o → i ≠ id ∧ look i h = some o := fun i o hi => by
    rw [look_del] at hi
    by_cases e : i = id
    · simp [e] at hi
    · simpa [e] using hi
  have C : Compat G w G w' A h A (del id h) := by
    refine ⟨fun _ h => h, cellZ S fun b hb => hfr b (hz b hb), fun _ h => h, fun j hj => ?_⟩
    cases hj : look j (del id h) with
    | none => cases look j h <;> exact trivial
    | some o => rw [(hsub j o hj).2]; exact objCompat_refl _ _
  refine ⟨⟨fun j oj hj => ?_, fun i j oi oj b c hi hj hne hb hc => S.inj i j _ _ _ _ (hsub _ _ hi).2 (hsub _ _ hj).2 hne hb hc, fun i oi b hi hb => S.zdis i _ _ (hsub _ _ hi).2 hb, fun b hb => by rw [hsz]; exact S.zin b hb⟩,
    ⟨hos, htp, hout, by omega, fun b hb hn => hfr b fun e => hn ⟨id, o, a, hl, ha, e.symm⟩, fun b ⟨i, oi, c, hi, r⟩ => .inl ⟨i, oi, c, (hsub _ _ hi).2, r⟩, fun b hb => .inl hb, fun _ h => h, fun v x r => r.compat C⟩⟩
  obtain ⟨hne, hj'⟩ := hsub _ _ hj
  exact ⟨(S.obj _ _ hj').1, (S.obj _ _ hj').2.compat C rfl rfl fun b hb => hfr _ (S.inj j id _ _ _ _ hj' hl hne hb ha)⟩

theorem run_getObj_dfr {b : Nat} {o : Option (List Deferred)} (hh : w.heap[b]? = some (.deferred o)) : (getObj b).run P w = .ok (.deferred o) w := by simp [getObj, Sem.run, hh]
theorem run_setObj_dfr {b : Nat} {o0 : Option (List Deferred)} (hh : w.heap[b]? = some (.deferred o0)) (o : Obj) : (setObj b o).run P w = .ok () { w with heap := w.heap.setIfInBounds b o } := by simp [setObj, Sem.run, hh]

/-- A mark's block is shut. -/
theorem take_mark (S : SatH G w A h) {id b : Nat} (hl : look id h = some .dfr) (r : Rel G w A h (.mrk id) (.chan (some b))) :
    ∃ w', (Instr.takeDeferred b).run P w = .ok [] w' ∧ SatH G w' A (del id h) ∧ Evo G w A h G w' A (del id h) := by
  obtain ⟨b', hloc, he⟩ := r.mrk_inv.2.2 hl
  cases he
  obtain ⟨_, b', hloc', hb⟩ := S.obj _ _ hl
  rw [hloc] at hloc'
  cases hloc'
  refine ⟨{ w with heap := w.heap.setIfInBounds b (.deferred none) }, ?_, kill_obj S hl hloc rfl rfl rfl (by simp) fun j hj => ?_⟩
  · simp only [Instr.takeDeferred, Sem.run_bind, run_getObj_dfr hb, Result.andThen_ok, run_setObj_dfr hb, Sem.run_pure]
  · simp only
    exact Array.getElem?_setIfInBounds_ne (fun e => hj e.symm)
end

/-- The heap without the marks. -/
def dels : List Nat → Heap → Heap
  | [], h => h
  | i :: is, h => dels is (del i h)

/-- Marks that are open. -/
def MarksOk : List Nat → Heap → Prop
  | [], _ => True
  | i :: is, h => look i h = some .dfr ∧ MarksOk is (del i h)

/-- A frame's deferred calls, all of them marks, are taken. -/
theorem marks_leave {P : Program} {F : Fence} {n : Nat} {fn : Func} {tmps : Array Value} {R : Ending → World → Prop} {G : Gh} {A : Nat → Prop} : ∀ (ids bs : List Nat) (h : Heap) (w : World), SatH G w A h → bs.length = ids.length →
    (∀ (j id b : Nat), ids[j]? = some id → bs[j]? = some b → Rel G w A h (.mrk id) (.chan (some b))) → MarksOk ids h →
    (∀ w', SatH G w' A (dels ids h) → Evo G w A h G w' A (dels ids h) → ∃ v, (results fn tmps).run P w' = .ok v w' ∧ R (.returned v) w') →
    LeavesInM F n P fn tmps R (bs.map fun b => { target := .collected b, args := #[] }) .returning w
  | [], bs, h, w, S, hl, _, _, k => by
    cases bs with
    | nil => simp only [List.map_nil, LeavesInM, LeavesIn]; exact k w S (Evo.refl ..)
    | cons b bs => simp at hl
  | id :: ids, bs, h, w, S, hl, hr, hm, k => by
    cases bs with
    | nil => simp at hl
    | cons b bs =>
      simp only [List.map_cons, LeavesInM]
      refine ⟨by simp, .inl ?_⟩
      obtain ⟨w', h1, S', E'⟩ := take_mark (P := P) S hm.1 (hr 0 id b rfl rfl)
      refine ⟨b, w', rfl, h1, marks_leave ids bs (del id h) w' S' (by simpa using hl) (fun j i c hj hc => E'.rel _ _ (hr (j + 1) i c (by simpa using hj) (by simpa using hc))) hm.2 fun w'' S'' E'' => k w'' S'' (E'.trans E'')⟩

/-! ### Results -/

def resA (P : Program) (h : Heap) (σ : AS) : ResultVar → Option AV
  | .tmp t => some (σ.ev (.tmp t))
  | .cell a t => loadA P h t (σ.ev (.tmp a))

def resL (P : Program) (h : Heap) (σ : AS) : List ResultVar → Option (List AV)
  | [] => some []
  | r :: rs => match resA P h σ r, resL P h σ rs with
    | some v, some vs => some (v :: vs)
    | _, _ => none

def resultA (P : Program) (h : Heap) (σ : AS) (rs : List ResultVar) : Option AV := match resL P h σ rs with
  | some [v] => some v
  | some vs => some (.tup vs)
  | none => none

/-- What a body's end must answer. -/
def retQ (P : Program) (rs : List ResultVar) (K : AV → Heap → Nat → Prop) (e : Exit) (σ : AS) : Prop := match e with
  | .normal | .ret => MarksOk σ.marks σ.heap ∧ ∃ v, resultA P (dels σ.marks σ.heap) σ rs = some v ∧ K v (dels σ.marks σ.heap) σ.next
  | _ => False

theorem resL_len {P : Program} {h : Heap} {σ : AS} : ∀ {rs : List ResultVar} {vs : List AV}, resL P h σ rs = some vs → vs.length = rs.length
  | [], vs, e => by cases e; rfl
  | r :: rs, vs, e => by
    simp only [resL] at e
    split at e
    · rename_i v ws h1 h2
      cases e
      simp [resL_len h2]
    · cases e

theorem run_loadVar {P : Program} {t : TypeId} {x y : Value} {w : World} (h : (Instr.loadAt t x).run P w = .ok y w) : (do loadVar t (← asAddr x) : Sem Value).run P w = .ok y w := by
  simp only [Instr.loadAt, Instr.sureAddr, Sem.run_bind] at h ⊢
  cases x <;> simp_all [asAddr]
  rename_i p
  cases p <;> simp_all

theorem results_list {P : Program} {G : Gh} {w : World} {A : Nat → Prop} {h : Heap} (S : SatH G w A h) {σ : AS} {tmps : Array Value} (ht : ∀ t v, look t σ.tmps = some v → Rel G w A h v (tmps.getD t undef)) :
    ∀ {rs : List ResultVar} {vs : List AV}, resL P h σ rs = some vs → ∃ xs, (rs.mapM (fun
    | .tmp t => pure (tmps.getD t undef)
    | .cell a t => do loadVar t (← asAddr (tmps.getD a undef)) : ResultVar → Sem Value)).run P w = .ok xs w ∧ Rels G w A h vs xs
  | [], vs, e => by
    cases e
    exact ⟨[], by simp, rfl, fun j c hj => by simp at hj⟩
  | r :: rs, vs, e => by
    simp only [resL] at e
    split at e
    · rename_i v ws h1 h2
      cases e
      obtain ⟨xs, h3, h4⟩ := results_list S ht h2
      have hev : ∀ t, Rel G w A h (σ.ev (.tmp t)) (tmps.getD t undef) := fun t => by
        simp only [AS.ev]
        cases hl : look t σ.tmps with
        | none => exact .any ..
        | some v => exact ht t v hl
      have : ∃ x, ((match r with
        | .tmp t => pure (tmps.getD t undef)
        | .cell a t => do loadVar t (← asAddr (tmps.getD a undef)) : Sem Value)).run P w = .ok x w ∧ Rel G w A h v x := by
        cases r with
        | tmp t =>
          simp only [resA, Option.some.injEq] at h1
          subst h1
          exact ⟨_, rfl, hev t⟩
        | cell a t =>
          simp only [resA] at h1
          obtain ⟨y, h5, h6⟩ := loadA_sound S (hev a) h1
          exact ⟨y, run_loadVar h5, h6⟩
      obtain ⟨x, h5, h6⟩ := this
      refine ⟨x :: xs, ?_, by simp [h4.1], fun j c hj => ?_⟩
      · rw [List.mapM_cons]
        simp only [Sem.run_bind]
        rw [h5]
        simp only [Result.andThen_ok, h3, Sem.run_pure]
      · cases j with
        | zero => simp at hj; subst hj; exact h6
        | succ j => exact h4.2 j c (by simpa using hj)
    · cases e

theorem resultA_sound {P : Program} {G : Gh} {w : World} {A : Nat → Prop} {h : Heap} (S : SatH G w A h) {σ : AS} {tmps : Array Value} (ht : ∀ t v, look t σ.tmps = some v → Rel G w A h v (tmps.getD t undef))
    {fn : Func} {v : AV} (hv : resultA P h σ fn.results.toList = some v) : ∃ x, (results fn tmps).run P w = .ok x w ∧ Rel G w A h v x := by
  unfold resultA at hv
  cases hl : resL P h σ fn.results.toList with
  | none => simp [hl] at hv
  | some vs =>
    obtain ⟨xs, h1, h2⟩ := results_list S ht hl
    have hrun : (results fn tmps).run P w = .ok (if h : xs.toArray.size = 1 then xs.toArray[0] else .tuple xs.toArray) w := by
      unfold results
      rw [Array.mapM_eq_mapM_toList]
      have hmap : ∀ (s : Sem (List Value)), s.run P w = .ok xs w → (do let vs ← List.toArray <$> s; pure (if h : vs.size = 1 then vs[0] else .tuple vs) : Sem Value).run P w = .ok (if h : xs.toArray.size = 1 then xs.toArray[0] else .tuple xs.toArray) w := by
        intro s hs
        have e : (List.toArray <$> s : Sem (Array Value)) = (s >>= fun x => pure x.toArray) := rfl
        rw [e]
        simp only [Sem.run_bind, hs, Result.andThen_ok, Sem.run_pure]
      exact hmap _ h1
    refine ⟨_, hrun, ?_⟩
    simp only [hl] at hv
    split at hv
    · rename_i v' he
      cases he
      cases hv
      obtain ⟨x, rfl⟩ : ∃ x, xs = [x] := by
        have := h2.1
        cases xs with
        | nil => simp at this
        | cons a l => cases l with
          | nil => exact ⟨a, rfl⟩
          | cons b l => simp at this
      have := h2.2 0 v rfl
      simpa using this
    · rename_i vs' hne he
      cases he
      cases hv
      have hlen : ¬ xs.toArray.size = 1 := fun e => by
        have h3 := h2.1
        simp at e
        rw [e] at h3
        cases vs with
        | nil => simp at h3
        | cons a l => cases l with
          | nil => exact hne a rfl
          | cons b l => simp at h3
      simp only [hlen, dif_neg, not_false_eq_true]
      exact .tup _ _ vs xs h2.1 h2.2
    · cases hv

/-! ### Contracts -/

/-- Arguments as temporaries. -/
def argsT : Nat → List AV → Tab AV
  | _, [] => nil'
  | i, a :: as => hc i a (argsT (i + 1) as)

theorem look_argsT : ∀ (as : List AV) (i t : Nat), look t (argsT i as) = if i ≤ t then as[t - i]? else none
  | [], i, t => by simp [argsT, look_nil]
  | a :: as, i, t => by
    simp only [argsT, look_hc, look_argsT as]
    by_cases e : i = t
    · subst e; simp
    · by_cases h1 : i ≤ t
      · have h2 : i + 1 ≤ t := by omega
        have h3 : t - i = (t - (i + 1)) + 1 := by omega
        simp [e, h1, h2, h3]
      · have h2 : ¬ i + 1 ≤ t := by omega
        simp [e, h1, h2]

/-- What a body ends with, held against what the contract says. -/
inductive Fin (nx0 : Nat) (h0 : Heap) (K : AV → Heap → Nat → Prop) (v : AV) (h : Heap) (nx : Nat) : Prop
  | keep (hk : K v h nx)
  | pure (r' : AV) (ho : ∀ j, j < nx0 → look j h = look j h0) (hf : Fz (fun i => nx0 ≤ i) h v r') (hk : K r' h0 nx0)
  | wrote (r' : AV) (h1 : Heap) (ho : ∀ j o, look j h1 = some o → look j h = some o) (hold : ∀ j o, look j h1 = some o → look j h0 = some o ∨ (j < nx0 ∧ ORefs (below nx0) o)) (hf : Fz (fun i => nx0 ≤ i) h v r') (hk : K r' h1 nx0)

theorem ACall.of_body {P : Program} (hm : P.follows .mixedOrders = true) {f : FuncId} {fn : Func} {c : Code} (hf : P.funcs[f]? = some fn) (hb : fn.body = some c) (hc : callable P f = true) {args : List AV} (hn : args.length ≤ fn.ntmps) (hok : codeOk fn.ntmps c = true)
    {h : Heap} {nx : Nat} {K : AV → Heap → Nat → Prop}
    (hx : xt ⟨P, fn.ntmps, none⟩ (retQ P fn.results.toList (Fin nx h K)) [.code c] ⟨argsT 0 args, h, nx, []⟩) : ACall P f args h nx K := by
  refine ⟨hc, fun G w vs S rs => callsIn_wide (n := 0) |>.1 (callsIn_of_wp_marks hf hb trivial ?_)⟩
  have k : Ok ⟨P, fn.ntmps, none⟩ ⟨G, w, below nx, h⟩ none G ⟨argsT 0 args, h, nx, []⟩ { tmps := vs.toArray ++ Array.replicate (fn.ntmps - vs.toArray.size) undef, defers := [] } w := by
    refine ⟨S, fun t v ht => ?_, ?_, ⟨[], rfl, rfl, fun j id b hj => by simp at hj⟩, Evo.refl .., fun r hr => (by cases hr), fun _ => rfl⟩
    · rw [look_argsT] at ht
      simp only [Nat.zero_le, if_true, Nat.sub_zero] at ht
      have hlt : t < args.length := (List.getElem?_eq_some_iff.1 ht).1
      have := rs.2 t v ht
      have hlt' : t < vs.length := by rw [← rs.1]; exact hlt
      have e : (vs.toArray ++ Array.replicate (fn.ntmps - vs.toArray.size) undef).getD t undef = vs.getD t undef := by
        simp only [Array.getD_eq_getD_getElem?, List.getD_eq_getElem?_getD]
        rw [Array.getElem?_append_left (by simpa using hlt')]
        simp
      rw [e]
      exact this
    · have := rs.1
      simp
      omega
  have h1 := xt_sound (C := ⟨P, fn.ntmps, none⟩) (O := ⟨G, w, below nx, h⟩) (l := none) hm _ [.code c] _ _ (Nat.le_refl _) (by simpa [XI.ok] using hok) hx G _ w k
  simp only [kq] at h1
  refine wpIn_mono h1 fun e a w' hq => ?_
  obtain ⟨σ, G', hq, k'⟩ := hq
  have fin : (MarksOk σ.marks σ.heap ∧ ∃ v, resultA P (dels σ.marks σ.heap) σ fn.results.toList = some v ∧ Fin nx h K v (dels σ.marks σ.heap) σ.next) → LeavesInM Fence.wide 0 P fn a.tmps (Left G w h nx K) a.defers .returning w' := by
    rintro ⟨hmk, v, hv, hfin⟩
    obtain ⟨bs, h2, h3, h4⟩ := k'.defers
    rw [h2]
    refine marks_leave σ.marks bs σ.heap w' k'.sat h3 h4 hmk fun w'' S'' E'' => ?_
    obtain ⟨x, hx1, hx2⟩ := resultA_sound (P := P) S'' (fun t v ht => E''.rel _ _ (k'.tmps t v ht)) hv
    refine ⟨x, hx1, ?_⟩
    have E := k'.evo.trans E''
    cases hfin with
    | keep hk => exact ⟨x, v, _, _, G', rfl, hk, S'', E, hx2⟩
    | pure r' ho hfz hk =>
      refine left_frozen S S'' E hx2 (fun j o hj => ?_) (fun j o hj => .inl hj) hfz hk
      rw [ho j (S.obj j o hj).1]
      exact hj
    | wrote r' h1 ho hold hfz hk => exact left_frozen S S'' E hx2 ho hold hfz hk
  cases e with
  | normal => exact fin hq
  | ret => exact fin hq
  | exit i => exact hq.elim
  | goto l => exact hq.elim
  | panic c => exact hq.elim
  | outgrown => exact hq.elim
end Go.Abs
