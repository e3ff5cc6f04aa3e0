/- The abstract layer: ranges over functions, loops, iterators, arrays lent; the equations in one bundle. -/
import Derived.Test.YtlmkmmkhfkdagaaKd

/- The abstract layer, part U: a call of yield: one round of the loop that it belongs to. -/
set_option linter.unusedVariables false
set_option linter.unusedSimpArgs false
namespace Go.Abs
open Go.RowKit

/-- Temporaries bound, one behind the other. -/
def bindT : List Tmp → List AV → Tab AV → Tab AV
  | p :: ps, v :: vs, T => bindT ps vs (hc p v T)
  | _, _, T => T

/-- What a round's end hands back. -/
def endR (lid : Nat) (jump : Option Code) (K : AV → Heap → Nat → Prop) (σ : AS) : Prop :=
  ∃ r, look lid σ.heap = some (.loop r) ∧ K (.sc (.bool jump.isNone)) (upd lid (.loop { r with st := if jump.isNone then .ready else .done, pend := jump }) σ.heap) σ.next

/-- How a round's body may end. -/
def roundQ (lid : Nat) (K : AV → Heap → Nat → Prop) (e : Exit) (σ : AS) : Prop := match e with
  | .normal => endR lid none K σ
  | .ret => endR lid (some .ret) K σ
  | .exit i => endR lid (some (.exit i)) K σ
  | _ => False

/-- How the assignment to a round's variables may end: then the body. -/
def assignQ (P : Program) (nt lid : Nat) (body : Code) (K : AV → Heap → Nat → Prop) (e : Exit) (σ : AS) : Prop := match e with
  | .normal => ∃ r, look lid σ.heap = some (.loop r) ∧ r.st = .ready ∧ xt ⟨P, nt, some lid⟩ (roundQ lid K) [.code body] { σ with heap := upd lid (.loop { r with st := .busy }) σ.heap }
  | _ => False

theorem assignQ_normal {P : Program} {nt lid : Nat} {body : Code} {K : AV → Heap → Nat → Prop} {σ : AS} : assignQ P nt lid body K .normal σ = ∃ r, look lid σ.heap = some (.loop r) ∧ r.st = .ready ∧ xt ⟨P, nt, some lid⟩ (roundQ lid K) [.code body] { σ with heap := upd lid (.loop { r with st := .busy }) σ.heap } := rfl
theorem roundQ_normal {lid : Nat} {K : AV → Heap → Nat → Prop} {σ : AS} : roundQ lid K .normal σ = endR lid none K σ := rfl
theorem roundQ_ret {lid : Nat} {K : AV → Heap → Nat → Prop} {σ : AS} : roundQ lid K .ret σ = endR lid (some .ret) K σ := rfl
theorem roundQ_exit {lid i : Nat} {K : AV → Heap → Nat → Prop} {σ : AS} : roundQ lid K (.exit i) σ = endR lid (some (.exit i)) K σ := rfl

section
variable {P : Program} {G : Gh} {w : World} {A : Nat → Prop} {h : Heap}

theorem bind_sound : ∀ (ps : List Tmp) (as : List AV) (vs : List Value) (T : Tab AV) (tv : Array Value), ps.all (fun p => decide (p < tv.size)) = true → Rels G w A h as vs → (∀ t v, look t T = some v → Rel G w A h v (tv.getD t undef)) →
    (((ps.zip vs).foldl (fun tmps (x : Tmp × Value) => tmps.setIfInBounds x.1 x.2) tv).size = tv.size) ∧ ∀ t v, look t (bindT ps as T) = some v → Rel G w A h v (((ps.zip vs).foldl (fun tmps (x : Tmp × Value) => tmps.setIfInBounds x.1 x.2) tv).getD t undef)
  | [], as, vs, T, tv, _, _, ht => by simpa [bindT] using ht
  | p :: ps, [], vs, T, tv, _, hr, ht => by
    have : vs = [] := List.eq_nil_of_length_eq_zero hr.1.symm
    subst this
    simpa [bindT] using ht
  | p :: ps, a :: as, [], T, tv, _, hr, ht => by simp [Rels] at hr
  | p :: ps, a :: as, v :: vs, T, tv, hp, hr, ht => by
    simp only [List.all_cons, Bool.and_eq_true, decide_eq_true_eq] at hp
    simp only [List.zip_cons_cons, List.foldl_cons, bindT]
    have h0 := hr.2 0 a rfl
    have ht' : ∀ t u, look t (hc p a T) = some u → Rel G w A h u ((tv.setIfInBounds p v).getD t undef) := fun t u hu => by
      rw [look_hc] at hu
      by_cases e : p = t
      · subst e
        simp only [if_true, Option.some.injEq] at hu
        subst hu
        have : (tv.setIfInBounds p v).getD p undef = v := by simp [Array.getD, hp.1]
        rw [this]
        exact h0
      · simp only [e, if_false] at hu
        have : (tv.setIfInBounds p v).getD t undef = tv.getD t undef := by
          simp only [Array.getD_eq_getD_getElem?]
          rw [Array.getElem?_setIfInBounds_ne e]
        rw [this]
        exact ht t u hu
    have ih := bind_sound ps as vs (hc p a T) (tv.setIfInBounds p v) (by simpa using hp.2) ⟨by simpa using hr.1, fun j c hj => hr.2 (j + 1) c (by simpa using hj)⟩ ht'
    simpa using ih

theorem ACallV.yield (hm : P.follows .mixedOrders = true) {nx lid : Nat} {r : ALoop} {args : List AV} {K : AV → Heap → Nat → Prop} (hl : look lid h = some (.loop r)) (hs : args.length = r.params.size)
    (hok : (r.params.toList.all (fun p => decide (p < r.nt)) && codeOk r.nt r.assign && codeOk r.nt r.body) = true)
    (hx : xt ⟨P, r.nt, some lid⟩ (assignQ P r.nt lid r.body K) [.code r.assign] ⟨bindT r.params.toList args r.tmps, h, nx, []⟩) : ACallV P (.yld lid) args h nx K := by
  intro G w x vs S rx rs
  simp only [Bool.and_eq_true] at hok
  obtain ⟨b, hloc, rfl⟩ := rx.yld_inv.2.2 r hl
  obtain ⟨L, hL, hLs, hLp, hLps, hLa, hLb, hLn, hLt, _⟩ := loop_turn S hl rx .ready none
  have hvs : vs.toArray.size = L.params.size := by rw [hLps, ← hs, rs.1]; simp
  have hy := run_yield (P := P) hL hvs
  have hfold : ((L.params.zip vs.toArray).foldl (fun tmps (t, a) => tmps.setIfInBounds t a) L.tmps) = ((r.params.toList.zip vs).foldl (fun tmps (x : Tmp × Value) => tmps.setIfInBounds x.1 x.2) L.tmps) := by
    rw [hLps, ← Array.foldl_toList, Array.toList_zip]
  rw [hfold] at hy
  have hinv : (do let d ← Deferred.ofValue (.func (.yield b) #[] #[]) vs.toArray; invoke d.target d.args : Sem Next).run P w = (Instr.yield b vs.toArray).run P w := by simp [Deferred.ofValue, invoke]
  refine .inr ⟨b, L.fn, _, L.assign, L.body, hinv.trans hy, ?_⟩
  rw [hLa, hLb]
  obtain ⟨hsz, hT⟩ := bind_sound r.params.toList args vs r.tmps L.tmps (by rw [hLn]; exact hok.1.1) rs hLt
  refine roundIn_of_wpIn trivial ?_
  have k : Ok ⟨P, r.nt, some lid⟩ ⟨G, w, below nx, h⟩ (some b) G ⟨bindT r.params.toList args r.tmps, h, nx, []⟩ { tmps := (r.params.toList.zip vs).foldl (fun tmps (x : Tmp × Value) => tmps.setIfInBounds x.1 x.2) L.tmps, defers := [] } w := by
    refine ⟨S, hT, by rw [← hLn]; exact hsz, ⟨[], rfl, rfl, fun j id b hj => by simp at hj⟩, Evo.refl .., fun r' hr' => ?_, fun h => by cases h⟩
    cases hr'
    exact ⟨b, rfl, rx⟩
  have h1 := xt_sound (C := ⟨P, r.nt, some lid⟩) (O := ⟨G, w, below nx, h⟩) (l := some b) hm _ [.code r.assign] _ _ (Nat.le_refl _) (by simpa [XI.ok] using hok.1.2) hx G _ w k
  simp only [kq] at h1
  refine wpIn_mono h1 fun e a1 w1 hq => ?_
  obtain ⟨σ1, G1, hq, k1⟩ := hq
  cases e with
  | normal =>
    obtain ⟨r1, hl1, hst1, hx1⟩ := hq
    obtain ⟨l0, hl0, ry⟩ := k1.rnd lid rfl
    cases hl0
    obtain ⟨L1, hL1, hLs1, hLp1, _, _, _, _, _, S2, E2⟩ := loop_turn k1.sat hl1 ry .busy r1.pend
    have hbr := run_beginRound (P := P) hL1 (by rw [hLs1]; exact hst1)
    refine ⟨_, hbr, ?_⟩
    have hrec : ({ L1 with state := .busy, pending := r1.pend } : Loop) = { L1 with state := .busy } := by rw [← hLp1]
    rw [hrec] at S2 E2
    have k2 : Ok ⟨P, r.nt, some lid⟩ ⟨G, w, below nx, h⟩ (some b) G1 { σ1 with heap := upd lid (.loop { r1 with st := .busy }) σ1.heap } a1 (w1.putObj b (.loop { L1 with state := .busy })) := by
      refine ⟨S2, fun t v hv => E2.rel _ _ (k1.tmps t v hv), k1.size, ?_, k1.evo.trans E2, fun r' hr' => ?_, k1.nornd⟩
      · obtain ⟨bs, h5, h6, h7⟩ := k1.defers
        exact ⟨bs, h5, h6, fun j id b hj hb => E2.rel _ _ (h7 j id b hj hb)⟩
      · obtain ⟨l1, h5, h6⟩ := k1.rnd r' hr'
        exact ⟨l1, h5, E2.rel _ _ h6⟩
    have h2 := xt_sound (C := ⟨P, r.nt, some lid⟩) (O := ⟨G, w, below nx, h⟩) (l := some b) hm _ [.code r.body] _ _ (Nat.le_refl _) (by simpa [XI.ok] using hok.2) hx1 G1 _ _ k2
    simp only [kq] at h2
    refine wpIn_mono h2 fun e a3 w3 hq => ?_
    obtain ⟨σ3, G3, hq, k3⟩ := hq
    have fin : ∀ jump, endR lid jump K σ3 → ∃ v w', (Instr.endRound b jump).run P w3 = .ok v w' ∧ Left G w h nx K (.returned v) w' := by
      rintro jump ⟨r3, hl3, hK⟩
      obtain ⟨l0, hl0, ry⟩ := k3.rnd lid rfl
      cases hl0
      obtain ⟨L3, hL3, _, _, _, _, _, _, _, S4, E4⟩ := loop_turn k3.sat hl3 ry (if jump.isNone then .ready else .done) jump
      exact ⟨_, _, run_endRound (P := P) jump hL3, _, _, _, _, G3, rfl, hK, S4, k3.evo.trans E4, .sc ..⟩
    cases e with
    | normal => exact fin none hq
    | ret => exact fin (some .ret) hq
    | exit i => exact fin (some (.exit i)) hq
    | goto l => exact hq.elim
    | panic c => exact hq.elim
    | outgrown => exact hq.elim
  | exit i => exact hq.elim
  | goto l => exact hq.elim
  | ret => exact hq.elim
  | panic c => exact hq.elim
  | outgrown => exact hq.elim
end

/-- A loop over a function, as a step of a walk. -/
def rangeX (C : Ctx) (Q : Exit → AS → Prop) (k : List XI) (g : FuncId) (caps : List AV) (σ1 : AS) (lid : Nat) : Prop :=
  ACall C.P g (.yld lid :: caps) σ1.heap σ1.next (fun _ h' nx' =>
      ∃ r', look lid h' = some (.loop r') ∧ r'.st ≠ .busy ∧
      match r'.pend with
      | none => xt C Q k (rangeOut σ1 lid r' h' nx')
      | some .ret => Q .ret (rangeOut σ1 lid r' h' nx')
      | some (.exit i) => (match popExit i k with
        | some k' => xt C Q k' (rangeOut σ1 lid r' h' nx')
        | none => Q (.exit i) (rangeOut σ1 lid r' h' nx'))
      | _ => False)

theorem xt_range {C : Ctx} {Q : Exit → AS → Prop} {k : List XI} {σ : AS} {f : Operand} {ps : Array Tmp} {as body : Code} {g : FuncId} {caps : List AV} (hr : ∀ r, C.rid = some r → ∃ rr, look r σ.heap = some (.loop rr))
    (hf : σ.ev f = .fn (.func g) caps) (h : rangeX C Q k g caps (rangeIn C σ ps as body).2 (rangeIn C σ ps as body).1) : xt C Q (.code (.rangeFunc f ps as body) :: k) σ := by
  rw [xt]
  refine ⟨hr, g, caps, hf, h.mono fun v h' nx' hq => ?_⟩
  obtain ⟨r', h2, h3, h4⟩ := hq
  refine ⟨r', h2, h3, ?_⟩
  cases hp : r'.pend with
  | none => rw [hp] at h4; exact h4
  | some c =>
    rw [hp] at h4
    cases c <;> try exact h4
    rename_i i
    change (match popExit i k with
      | some k' => xt C Q k' (rangeOut (rangeIn C σ ps as body).2 (rangeIn C σ ps as body).1 r' h' nx')
      | none => Q (.exit i) (rangeOut (rangeIn C σ ps as body).2 (rangeIn C σ ps as body).1 r' h' nx')) at h4
    show (match hp : popExit i k with
      | some k' => xt C Q k' (rangeOut (rangeIn C σ ps as body).2 (rangeIn C σ ps as body).1 r' h' nx')
      | none => Q (.exit i) (rangeOut (rangeIn C σ ps as body).2 (rangeIn C σ ps as body).1 r' h' nx'))
    cases hpe : popExit i k <;> simp only [hpe] at h4 ⊢ <;> exact h4
end Go.Abs

/- The abstract layer, part V: loops by an invariant, calls by a contract, lists found through. -/
set_option linter.unusedVariables false
set_option linter.unusedSimpArgs false
namespace Go.Abs
open Go.RowKit

/-! ### What asks less is shown the sooner -/

theorem XLoopN_mono {body : (Exit → AS → Prop) → AS → Prop} (hb : ∀ Q1 Q2 : Exit → AS → Prop, (∀ e σ, Q1 e σ → Q2 e σ) → ∀ σ, body Q1 σ → body Q2 σ) {K1 K2 : Exit → AS → Prop} (hk : ∀ e σ, K1 e σ → K2 e σ) :
    ∀ n σ, XLoopN body K1 n σ → XLoopN body K2 n σ
  | 0, _, h => h.elim
  | n + 1, σ, h => by
    unfold XLoopN at h ⊢
    refine hb _ _ (fun e σ' hq => ?_) σ h
    cases e with
    | normal => exact XLoopN_mono hb hk n σ' hq
    | exit id => exact hk _ _ hq
    | goto l => exact hk _ _ hq
    | ret => exact hk _ _ hq
    | panic c => exact hk _ _ hq
    | outgrown => exact hk _ _ hq

theorem XLoopN_more {body : (Exit → AS → Prop) → AS → Prop} (hb : ∀ Q1 Q2 : Exit → AS → Prop, (∀ e σ, Q1 e σ → Q2 e σ) → ∀ σ, body Q1 σ → body Q2 σ) {K : Exit → AS → Prop} :
    ∀ n n' σ, n ≤ n' → XLoopN body K n σ → XLoopN body K n' σ
  | 0, _, _, _, h => h.elim
  | n + 1, 0, _, hn, _ => by omega
  | n + 1, n' + 1, σ, hn, h => by
    unfold XLoopN at h ⊢
    refine hb _ _ (fun e σ' hq => ?_) σ h
    cases e with
    | normal => exact XLoopN_more hb n n' σ' (by omega) hq
    | exit id => exact hq
    | goto l => exact hq
    | ret => exact hq
    | panic c => exact hq
    | outgrown => exact hq

theorem XD_mono {C : Ctx} {all : Array Oper} {L : Loc} {base : Nat} {K1 K2 : AS → Prop} (hk : ∀ σ, K1 σ → K2 σ) : ∀ (l : List Oper) (i : Nat) (σ : AS), XD C all L base i l σ K1 → XD C all L base i l σ K2
  | [], i, σ, h => hk σ h
  | o :: rest, i, σ, h => by
    unfold XD at h ⊢
    obtain ⟨hloc, t, hg, h1, h2⟩ := h
    refine ⟨hloc, t, hg, fun e => XD_mono hk rest _ _ (h1 e), fun e => ?_⟩
    have h3 := h2 e
    cases hc : callOf o.op with
    | none =>
      simp only [hc] at h3 ⊢
      obtain ⟨h4, r, h5, h6⟩ := h3
      exact ⟨h4, r, h5, XD_mono hk rest _ _ h6⟩
    | some fa =>
      obtain ⟨f, args⟩ := fa
      simp only [hc] at h3 ⊢
      obtain ⟨r, h4, h6⟩ := h3
      exact ⟨r, h4, XD_mono hk rest _ _ h6⟩

theorem xt_monoN {C : Ctx} : ∀ (n : Nat) (todo : List XI) (Q1 Q2 : Exit → AS → Prop) (σ : AS), tsz todo ≤ n → (∀ e σ, Q1 e σ → Q2 e σ) → xt C Q1 todo σ → xt C Q2 todo σ := by
  intro n
  induction n with
  | zero =>
    intro todo Q1 Q2 σ hn hq h
    cases todo with
    | nil => rw [xt] at h ⊢; exact hq _ _ h
    | cons x r =>
      exfalso
      cases x with
      | code c => have := csz_pos c; simp only [tsz, XI.sz] at hn; omega
      | ops al l' => simp only [tsz, XI.sz] at hn; omega
      | inB i => simp only [tsz, XI.sz] at hn; omega
  | succ n ih =>
    intro todo Q1 Q2 σ hn hq h
    cases todo with
    | nil => rw [xt] at h ⊢; exact hq _ _ h
    | cons x r =>
      cases x with
      | inB i => rw [xt] at h ⊢; exact ih r Q1 Q2 σ (by simp only [tsz, XI.sz] at hn; omega) hq h
      | ops al l' =>
        cases l' with
        | nil => rw [xt] at h ⊢; exact ih r Q1 Q2 σ (by simp only [tsz, XI.sz, List.length_nil] at hn; omega) hq h
        | cons o rest =>
          rw [xt] at h ⊢
          have step : ∀ σ, xt C Q1 (.ops al rest :: r) σ → xt C Q2 (.ops al rest :: r) σ := fun σ h => ih _ Q1 Q2 σ (by simp only [tsz, XI.sz, List.length_cons] at hn ⊢; omega) hq h
          obtain ⟨t, hg, h1, h2⟩ := h
          refine ⟨t, hg, fun e => step _ (h1 e), fun e => ?_⟩
          have h3 := h2 e
          cases hc : callOf o.op with
          | some fa =>
            obtain ⟨f, args⟩ := fa
            simp only [hc] at h3 ⊢
            exact h3.mono fun r h' nx' hx => step _ hx
          | none =>
            simp only [hc] at h3 ⊢
            cases hnc : nilCmp C.P o.op with
            | some nx =>
              obtain ⟨b, x⟩ := nx
              simp only [hnc] at h3 ⊢
              obtain ⟨ls, h4, h5⟩ := h3
              exact ⟨ls, h4, fun b hb => step _ (h5 b hb)⟩
            | none =>
              simp only [hnc] at h3 ⊢
              obtain ⟨rr, h4, h5⟩ := h3
              exact ⟨rr, h4, step _ h5⟩
      | code c =>
        cases c with
        | skip => rw [xt] at h ⊢; exact ih r Q1 Q2 σ (by simp only [tsz, XI.sz, csz] at hn; omega) hq h
        | seq x y => rw [xt] at h ⊢; exact ih _ Q1 Q2 σ (by simp only [tsz, XI.sz, csz] at hn ⊢; omega) hq h
        | cond c x y =>
          rw [xt] at h ⊢
          obtain ⟨t, ht, hx, hy⟩ := h
          exact ⟨t, ht, fun e => ih _ Q1 Q2 σ (by simp only [tsz, XI.sz, csz] at hn ⊢; omega) hq (hx e), fun e => ih _ Q1 Q2 σ (by simp only [tsz, XI.sz, csz] at hn ⊢; omega) hq (hy e)⟩
        | block id c => rw [xt] at h ⊢; exact ih _ Q1 Q2 σ (by simp only [tsz, XI.sz, csz] at hn ⊢; omega) hq h
        | exit id =>
          rw [xt] at h ⊢
          split at h
          · rename_i k' hp
            have hsz := popExit_sz hp
            have := ih k' Q1 Q2 σ (by simp only [tsz, XI.sz, csz] at hn; omega) hq h
            exact this
          · rename_i hp
            exact hq _ _ h
        | ret => rw [xt] at h ⊢; exact hq _ _ h
        | label l' => rw [xt] at h ⊢; exact ih r Q1 Q2 σ (by simp only [tsz, XI.sz, csz] at hn; omega) hq h
        | region id ops draw =>
          cases draw with
          | true =>
            rw [xt] at h ⊢
            obtain ⟨L, hd, hx⟩ := h
            exact ⟨L, hd, XD_mono (fun σ' hk => ih r Q1 Q2 _ (by simp only [tsz, XI.sz, csz] at hn; omega) hq hk) _ _ _ hx⟩
          | false => rw [xt] at h ⊢; exact ih _ Q1 Q2 σ (by simp only [tsz, XI.sz, csz, Array.length_toList] at hn ⊢; omega) hq h
        | loop c =>
          rw [xt] at h ⊢
          obtain ⟨m, h⟩ := h
          refine ⟨m, XLoopN_mono (fun Q3 Q4 h34 σ hx => ih [.code c] Q3 Q4 σ (by simp only [tsz, XI.sz, csz] at hn ⊢; omega) h34 hx) (fun e σ' hx => ?_) m σ h⟩
          cases e with
          | exit id =>
            simp only at hx ⊢
            split at hx
            · rename_i k' hp
              have hsz := popExit_sz hp
              have := ih k' Q1 Q2 σ' (by simp only [tsz, XI.sz, csz] at hn; omega) hq hx
              exact this
            · rename_i hp
              exact hq _ _ hx
          | normal => exact hq _ _ hx
          | goto l => exact hq _ _ hx
          | ret => exact hq _ _ hx
          | panic c => exact hq _ _ hx
          | outgrown => exact hq _ _ hx
        | goto l' => rw [xt] at h; exact h.elim
        | scope b => rw [xt] at h; exact h.elim
        | refuse s => rw [xt] at h; exact h.elim
        | rangeFunc f ps x y =>
          rw [xt] at h ⊢
          obtain ⟨h1, g, caps, hf, hc⟩ := h
          refine ⟨h1, g, caps, hf, hc.mono fun v h' nx' hx => ?_⟩
          obtain ⟨r', h2, h3, h4⟩ := hx
          refine ⟨r', h2, h3, ?_⟩
          cases hp : r'.pend with
          | none => rw [hp] at h4; exact ih r Q1 Q2 _ (by simp only [tsz, XI.sz, csz] at hn; omega) hq h4
          | some c =>
            rw [hp] at h4
            cases c with
            | ret => exact hq _ _ h4
            | exit i =>
              revert h4
              simp only
              intro h4
              split at h4
              · rename_i k' hp
                have hsz := popExit_sz hp
                have := ih k' Q1 Q2 _ (by simp only [tsz, XI.sz, csz] at hn; omega) hq h4
                exact this
              · rename_i hp
                exact hq _ _ h4
            | _ => exact h4

theorem xt_mono {C : Ctx} {todo : List XI} {Q1 Q2 : Exit → AS → Prop} {σ : AS} (hq : ∀ e σ, Q1 e σ → Q2 e σ) (h : xt C Q1 todo σ) : xt C Q2 todo σ := xt_monoN _ todo Q1 Q2 σ (Nat.le_refl _) hq h

/-- How a loop's round may end. -/
def loopQ (C : Ctx) (Q : Exit → AS → Prop) (k : List XI) (I : Nat → AS → Prop) (m : Nat) (e : Exit) (σ : AS) : Prop := match e with
  | .normal => ∃ m', m' < m ∧ I m' σ
  | .exit id => (match popExit id k with
    | some k' => xt C Q k' σ
    | none => Q (.exit id) σ)
  | e => Q e σ

section
variable {C : Ctx} {Q : Exit → AS → Prop} {k : List XI} {σ : AS} {I : Nat → AS → Prop} {m : Nat}
theorem loopQ_normal : loopQ C Q k I m .normal σ = ∃ m', m' < m ∧ I m' σ := rfl
theorem loopQ_exit (id : Nat) : loopQ C Q k I m (.exit id) σ = (match popExit id k with
    | some k' => xt C Q k' σ
    | none => Q (.exit id) σ) := rfl
theorem loopQ_ret : loopQ C Q k I m .ret σ = Q .ret σ := rfl

theorem loopX_ind {c : Code} (I : Nat → AS → Prop) (m : Nat) (h0 : I m σ) (step : ∀ m σ', I m σ' → xt C (loopQ C Q k I m) [.code c] σ') : loopX c C Q k σ := by
  have : ∀ m σ, I m σ → XLoopN (fun Q' σ' => xt C Q' [.code c] σ') (fun e σ' => match e with
      | .exit id => (match popExit id k with
        | some k' => xt C Q k' σ'
        | none => Q (.exit id) σ')
      | e => Q e σ') (m + 1) σ := by
    intro m
    induction m using Nat.strongRecOn with
    | _ m ih =>
      intro σ hI
      have h1 := step m σ hI
      unfold XLoopN
      have mono : ∀ (Q1 Q2 : Exit → AS → Prop), (∀ e σ, Q1 e σ → Q2 e σ) → ∀ σ, xt C Q1 [.code c] σ → xt C Q2 [.code c] σ := fun Q1 Q2 hq σ h => xt_mono hq h
      refine mono _ _ (fun e σ' hq => ?_) σ h1
      cases e with
      | normal =>
        obtain ⟨m', hm, hI'⟩ := hq
        exact XLoopN_more mono (m' + 1) m σ' (by omega) (ih m' hm σ' hI')
      | exit id => exact hq
      | goto l => exact hq
      | ret => exact hq
      | panic c => exact hq
      | outgrown => exact hq
  exact ⟨m + 1, this m σ h0⟩

theorem callX_fn {g : FuncId} {caps as : List AV} {d : Option Tmp} {X : AS → Prop} (h : ACall C.P g (as ++ caps) σ.heap σ.next (fun r h' nx' => X { (σ.put d r) with heap := h', next := nx' })) : callX C (.fn (.func g) caps) as d σ X := ACallV.of_fn h
theorem callX_v {f : AV} {as : List AV} {d : Option Tmp} {X : AS → Prop} (h : ACallV C.P f as σ.heap σ.next (fun r h' nx' => X { (σ.put d r) with heap := h', next := nx' })) : callX C f as d σ X := h
end

/-! ### Operations of a region whose order is open -/

def resetN (n : Nat) (X : AS → Prop) (σ : AS) : Prop := X { σ with next := n }
theorem resetN_mk (n : Nat) (X : AS → Prop) (T : Tab AV) (h : Heap) (m : Nat) (k : List Nat) : resetN n X ⟨T, h, m, k⟩ = X ⟨T, h, n, k⟩ := rfl

theorem doD_op {C : Ctx} {al : Array Oper} {id : Nat} {d : Option Tmp} {op : Op} {ty : TypeId} {pos : String} {aft : Array Edge} {g : Option (Nat × Bool)} {T : Tab AV} {h : Heap} {n : Nat} {m : List Nat} {X : AS → Prop} (h1 : callOf op = none) (h2 : nilCmp C.P op = none) (h3 : ∀ h i ρ, opX C.P h i ρ op = opA C.P h i ρ op) :
    doD false C al id ⟨d, op, ty, pos, aft, g⟩ ⟨T, h, n, m⟩ X = doOp C al ⟨d, op, ty, pos, aft, g⟩ ⟨T, h, id, m⟩ (resetN n X) := by
  unfold doD doOp resetN
  simp only [h1, h2, h3, true_and]
  cases d <;> cases g <;> rfl

theorem doD_move {C : Ctx} {al : Array Oper} {id : Nat} {d : Option Tmp} {ty : TypeId} {pos : String} {aft : Array Edge} {g : Option (Nat × Bool)} {T : Tab AV} {h : Heap} {n : Nat} {m : List Nat} {X : AS → Prop} (x : Operand) : doD false C al id ⟨d, .move x, ty, pos, aft, g⟩ ⟨T, h, n, m⟩ X = doOp C al ⟨d, .move x, ty, pos, aft, g⟩ ⟨T, h, id, m⟩ (resetN n X) := doD_op rfl rfl fun _ _ _ => rfl
theorem doD_assign {C : Ctx} {al : Array Oper} {id : Nat} {d : Option Tmp} {ty : TypeId} {pos : String} {aft : Array Edge} {g : Option (Nat × Bool)} {T : Tab AV} {h : Heap} {n : Nat} {m : List Nat} {X : AS → Prop} (x : Operand) : doD false C al id ⟨d, .assign x, ty, pos, aft, g⟩ ⟨T, h, n, m⟩ X = doOp C al ⟨d, .assign x, ty, pos, aft, g⟩ ⟨T, h, id, m⟩ (resetN n X) := doD_op rfl rfl fun _ _ _ => rfl
theorem doD_pick {C : Ctx} {al : Array Oper} {id : Nat} {d : Option Tmp} {ty : TypeId} {pos : String} {aft : Array Edge} {g : Option (Nat × Bool)} {T : Tab AV} {h : Heap} {n : Nat} {m : List Nat} {X : AS → Prop} (c a b : Operand) : doD false C al id ⟨d, .pick c a b, ty, pos, aft, g⟩ ⟨T, h, n, m⟩ X = doOp C al ⟨d, .pick c a b, ty, pos, aft, g⟩ ⟨T, h, id, m⟩ (resetN n X) := doD_op rfl rfl fun _ _ _ => rfl
theorem doD_alloc {C : Ctx} {al : Array Oper} {id : Nat} {d : Option Tmp} {ty : TypeId} {pos : String} {aft : Array Edge} {g : Option (Nat × Bool)} {T : Tab AV} {h : Heap} {n : Nat} {m : List Nat} {X : AS → Prop} (t : TypeId) : doD false C al id ⟨d, .alloc t, ty, pos, aft, g⟩ ⟨T, h, n, m⟩ X = doOp C al ⟨d, .alloc t, ty, pos, aft, g⟩ ⟨T, h, id, m⟩ (resetN n X) := doD_op rfl rfl fun _ _ _ => rfl
theorem doD_box {C : Ctx} {al : Array Oper} {id : Nat} {d : Option Tmp} {ty : TypeId} {pos : String} {aft : Array Edge} {g : Option (Nat × Bool)} {T : Tab AV} {h : Heap} {n : Nat} {m : List Nat} {X : AS → Prop} (t : TypeId) (x : Operand) : doD false C al id ⟨d, .box t x, ty, pos, aft, g⟩ ⟨T, h, n, m⟩ X = doOp C al ⟨d, .box t x, ty, pos, aft, g⟩ ⟨T, h, id, m⟩ (resetN n X) := doD_op rfl rfl fun _ _ _ => rfl
theorem doD_build {C : Ctx} {al : Array Oper} {id : Nat} {d : Option Tmp} {ty : TypeId} {pos : String} {aft : Array Edge} {g : Option (Nat × Bool)} {T : Tab AV} {h : Heap} {n : Nat} {m : List Nat} {X : AS → Prop} (t : TypeId) (ps : Array (Nat × Operand)) : doD false C al id ⟨d, .build t ps, ty, pos, aft, g⟩ ⟨T, h, n, m⟩ X = doOp C al ⟨d, .build t ps, ty, pos, aft, g⟩ ⟨T, h, id, m⟩ (resetN n X) := doD_op rfl rfl fun _ _ _ => rfl
theorem doD_buildSlice {C : Ctx} {al : Array Oper} {id : Nat} {d : Option Tmp} {ty : TypeId} {pos : String} {aft : Array Edge} {g : Option (Nat × Bool)} {T : Tab AV} {h : Heap} {n : Nat} {m : List Nat} {X : AS → Prop} (t : TypeId) (k : Nat) (ps : Array (Nat × Operand)) : doD false C al id ⟨d, .buildSlice t k ps, ty, pos, aft, g⟩ ⟨T, h, n, m⟩ X = doOp C al ⟨d, .buildSlice t k ps, ty, pos, aft, g⟩ ⟨T, h, id, m⟩ (resetN n X) := doD_op rfl rfl fun _ _ _ => rfl
theorem doD_load {C : Ctx} {al : Array Oper} {id : Nat} {d : Option Tmp} {ty : TypeId} {pos : String} {aft : Array Edge} {g : Option (Nat × Bool)} {T : Tab AV} {h : Heap} {n : Nat} {m : List Nat} {X : AS → Prop} (t : TypeId) (a : Operand) : doD false C al id ⟨d, .load t a, ty, pos, aft, g⟩ ⟨T, h, n, m⟩ X = doOp C al ⟨d, .load t a, ty, pos, aft, g⟩ ⟨T, h, id, m⟩ (resetN n X) := doD_op rfl rfl fun _ _ _ => rfl
theorem doD_store {C : Ctx} {al : Array Oper} {id : Nat} {d : Option Tmp} {ty : TypeId} {pos : String} {aft : Array Edge} {g : Option (Nat × Bool)} {T : Tab AV} {h : Heap} {n : Nat} {m : List Nat} {X : AS → Prop} (t : TypeId) (a x : Operand) : doD false C al id ⟨d, .store t a x, ty, pos, aft, g⟩ ⟨T, h, n, m⟩ X = doOp C al ⟨d, .store t a x, ty, pos, aft, g⟩ ⟨T, h, id, m⟩ (resetN n X) := doD_op rfl rfl fun _ _ _ => rfl
theorem doD_bin_tmp {C : Ctx} {al : Array Oper} {id : Nat} {d : Option Tmp} {ty : TypeId} {pos : String} {aft : Array Edge} {g : Option (Nat × Bool)} {T : Tab AV} {h : Heap} {n : Nat} {m : List Nat} {X : AS → Prop} (o : BinOp) (t : TypeId) (x : Operand) (y : Tmp) (yt : TypeId) : doD false C al id ⟨d, .binOp o t x (.tmp y) yt, ty, pos, aft, g⟩ ⟨T, h, n, m⟩ X = doOp C al ⟨d, .binOp o t x (.tmp y) yt, ty, pos, aft, g⟩ ⟨T, h, id, m⟩ (resetN n X) := doD_op rfl rfl fun _ _ _ => rfl
theorem doD_bin_int {C : Ctx} {al : Array Oper} {id : Nat} {d : Option Tmp} {ty : TypeId} {pos : String} {aft : Array Edge} {g : Option (Nat × Bool)} {T : Tab AV} {h : Heap} {n : Nat} {m : List Nat} {X : AS → Prop} (o : BinOp) (t : TypeId) (x : Operand) (k : IntKind) (i : Int) (yt : TypeId) : doD false C al id ⟨d, .binOp o t x (.const (.int k i)) yt, ty, pos, aft, g⟩ ⟨T, h, n, m⟩ X = doOp C al ⟨d, .binOp o t x (.const (.int k i)) yt, ty, pos, aft, g⟩ ⟨T, h, id, m⟩ (resetN n X) := doD_op rfl rfl fun _ _ _ => rfl
theorem doD_bin_str {C : Ctx} {al : Array Oper} {id : Nat} {d : Option Tmp} {ty : TypeId} {pos : String} {aft : Array Edge} {g : Option (Nat × Bool)} {T : Tab AV} {h : Heap} {n : Nat} {m : List Nat} {X : AS → Prop} (o : BinOp) (t : TypeId) (x : Operand) (b : ByteArray) (yt : TypeId) : doD false C al id ⟨d, .binOp o t x (.const (.string b)) yt, ty, pos, aft, g⟩ ⟨T, h, n, m⟩ X = doOp C al ⟨d, .binOp o t x (.const (.string b)) yt, ty, pos, aft, g⟩ ⟨T, h, id, m⟩ (resetN n X) := doD_op rfl rfl fun _ _ _ => rfl
theorem doD_bin_bool {C : Ctx} {al : Array Oper} {id : Nat} {d : Option Tmp} {ty : TypeId} {pos : String} {aft : Array Edge} {g : Option (Nat × Bool)} {T : Tab AV} {h : Heap} {n : Nat} {m : List Nat} {X : AS → Prop} (o : BinOp) (t : TypeId) (x : Operand) (b : Bool) (yt : TypeId) : doD false C al id ⟨d, .binOp o t x (.const (.bool b)) yt, ty, pos, aft, g⟩ ⟨T, h, n, m⟩ X = doOp C al ⟨d, .binOp o t x (.const (.bool b)) yt, ty, pos, aft, g⟩ ⟨T, h, id, m⟩ (resetN n X) := doD_op rfl rfl fun _ _ _ => rfl
theorem doD_unOp {C : Ctx} {al : Array Oper} {id : Nat} {d : Option Tmp} {ty : TypeId} {pos : String} {aft : Array Edge} {g : Option (Nat × Bool)} {T : Tab AV} {h : Heap} {n : Nat} {m : List Nat} {X : AS → Prop} (o : UnOp) (t : TypeId) (x : Operand) : doD false C al id ⟨d, .unOp o t x, ty, pos, aft, g⟩ ⟨T, h, n, m⟩ X = doOp C al ⟨d, .unOp o t x, ty, pos, aft, g⟩ ⟨T, h, id, m⟩ (resetN n X) := doD_op rfl rfl fun _ _ _ => rfl
theorem doD_convert {C : Ctx} {al : Array Oper} {id : Nat} {d : Option Tmp} {ty : TypeId} {pos : String} {aft : Array Edge} {g : Option (Nat × Bool)} {T : Tab AV} {h : Heap} {n : Nat} {m : List Nat} {X : AS → Prop} (s t : TypeId) (x : Operand) : doD false C al id ⟨d, .convert s t x, ty, pos, aft, g⟩ ⟨T, h, n, m⟩ X = doOp C al ⟨d, .convert s t x, ty, pos, aft, g⟩ ⟨T, h, id, m⟩ (resetN n X) := doD_op rfl rfl fun _ _ _ => rfl
theorem doD_iface {C : Ctx} {al : Array Oper} {id : Nat} {d : Option Tmp} {ty : TypeId} {pos : String} {aft : Array Edge} {g : Option (Nat × Bool)} {T : Tab AV} {h : Heap} {n : Nat} {m : List Nat} {X : AS → Prop} (t : TypeId) (x : Operand) : doD false C al id ⟨d, .makeInterface t x, ty, pos, aft, g⟩ ⟨T, h, n, m⟩ X = doOp C al ⟨d, .makeInterface t x, ty, pos, aft, g⟩ ⟨T, h, id, m⟩ (resetN n X) := doD_op rfl rfl fun _ _ _ => rfl
theorem doD_makeFunc {C : Ctx} {al : Array Oper} {id : Nat} {d : Option Tmp} {ty : TypeId} {pos : String} {aft : Array Edge} {g : Option (Nat × Bool)} {T : Tab AV} {h : Heap} {n : Nat} {m : List Nat} {X : AS → Prop} (f : Fn) (fs cs : Array Operand) : doD false C al id ⟨d, .makeFunc f fs cs, ty, pos, aft, g⟩ ⟨T, h, n, m⟩ X = doOp C al ⟨d, .makeFunc f fs cs, ty, pos, aft, g⟩ ⟨T, h, id, m⟩ (resetN n X) := doD_op rfl rfl fun _ _ _ => rfl
theorem doD_slice {C : Ctx} {al : Array Oper} {id : Nat} {d : Option Tmp} {ty : TypeId} {pos : String} {aft : Array Edge} {T : Tab AV} {h : Heap} {n : Nat} {m : List Nat} {X : AS → Prop} (t : TypeId) (x : Operand) (lo hi mx : Option Operand) : doD false C al id ⟨d, .slice t x lo hi mx, ty, pos, aft, none⟩ ⟨T, h, n, m⟩ X = obV (sliceA C.P h t ((AS.mk T h n m).ev x) (lo.map (AS.mk T h n m).ev) (hi.map (AS.mk T h n m).ev) (mx.map (AS.mk T h n m).ev)) d ⟨T, h, n, m⟩ X := by
  unfold doD obV ob opD
  simp only [callOf, nilCmp, true_and, Bool.true_eq_false, exists_eq_left, false_implies, true_implies, opA]
  cases sliceA C.P h t ((AS.mk T h n m).ev x) (lo.map (AS.mk T h n m).ev) (hi.map (AS.mk T h n m).ev) (mx.map (AS.mk T h n m).ev) with
  | none => simp
  | some v => cases d <;> simp <;> rfl
theorem doD_fieldAddr {C : Ctx} {al : Array Oper} {id : Nat} {d : Option Tmp} {ty : TypeId} {pos : String} {aft : Array Edge} {g : Option (Nat × Bool)} {T : Tab AV} {h : Heap} {n : Nat} {m : List Nat} {X : AS → Prop} (t : TypeId) (x : Operand) (f : Nat) : doD false C al id ⟨d, .fieldAddr t x f, ty, pos, aft, g⟩ ⟨T, h, n, m⟩ X = doOp C al ⟨d, .fieldAddr t x f, ty, pos, aft, g⟩ ⟨T, h, id, m⟩ (resetN n X) := doD_op rfl rfl fun _ _ _ => rfl
theorem doD_field {C : Ctx} {al : Array Oper} {id : Nat} {d : Option Tmp} {ty : TypeId} {pos : String} {aft : Array Edge} {g : Option (Nat × Bool)} {T : Tab AV} {h : Heap} {n : Nat} {m : List Nat} {X : AS → Prop} (t : TypeId) (x : Operand) (f : Nat) : doD false C al id ⟨d, .field t x f, ty, pos, aft, g⟩ ⟨T, h, n, m⟩ X = doOp C al ⟨d, .field t x f, ty, pos, aft, g⟩ ⟨T, h, id, m⟩ (resetN n X) := doD_op rfl rfl fun _ _ _ => rfl
theorem doD_indexAddr {C : Ctx} {al : Array Oper} {id : Nat} {d : Option Tmp} {ty : TypeId} {pos : String} {aft : Array Edge} {g : Option (Nat × Bool)} {T : Tab AV} {h : Heap} {n : Nat} {m : List Nat} {X : AS → Prop} (t : TypeId) (x i : Operand) : doD false C al id ⟨d, .indexAddr t x i, ty, pos, aft, g⟩ ⟨T, h, n, m⟩ X = doOp C al ⟨d, .indexAddr t x i, ty, pos, aft, g⟩ ⟨T, h, id, m⟩ (resetN n X) := doD_op rfl rfl fun _ _ _ => rfl
theorem doD_index {C : Ctx} {al : Array Oper} {id : Nat} {d : Option Tmp} {ty : TypeId} {pos : String} {aft : Array Edge} {g : Option (Nat × Bool)} {T : Tab AV} {h : Heap} {n : Nat} {m : List Nat} {X : AS → Prop} (t : TypeId) (x i : Operand) : doD false C al id ⟨d, .index t x i, ty, pos, aft, g⟩ ⟨T, h, n, m⟩ X = doOp C al ⟨d, .index t x i, ty, pos, aft, g⟩ ⟨T, h, id, m⟩ (resetN n X) := doD_op rfl rfl fun _ _ _ => rfl
theorem doD_lookup {C : Ctx} {al : Array Oper} {id : Nat} {d : Option Tmp} {ty : TypeId} {pos : String} {aft : Array Edge} {g : Option (Nat × Bool)} {T : Tab AV} {h : Heap} {n : Nat} {m : List Nat} {X : AS → Prop} (t : TypeId) (x i : Operand) (ok : Bool) : doD false C al id ⟨d, .lookup t x i ok, ty, pos, aft, g⟩ ⟨T, h, n, m⟩ X = doOp C al ⟨d, .lookup t x i ok, ty, pos, aft, g⟩ ⟨T, h, id, m⟩ (resetN n X) := doD_op rfl rfl fun _ _ _ => rfl
theorem doD_mapUpdate {C : Ctx} {al : Array Oper} {id : Nat} {d : Option Tmp} {ty : TypeId} {pos : String} {aft : Array Edge} {g : Option (Nat × Bool)} {T : Tab AV} {h : Heap} {n : Nat} {m : List Nat} {X : AS → Prop} (t : TypeId) (x i v : Operand) : doD false C al id ⟨d, .mapUpdate t x i v, ty, pos, aft, g⟩ ⟨T, h, n, m⟩ X = doOp C al ⟨d, .mapUpdate t x i v, ty, pos, aft, g⟩ ⟨T, h, id, m⟩ (resetN n X) := doD_op rfl rfl fun _ _ _ => rfl
theorem doD_extract {C : Ctx} {al : Array Oper} {id : Nat} {d : Option Tmp} {ty : TypeId} {pos : String} {aft : Array Edge} {g : Option (Nat × Bool)} {T : Tab AV} {h : Heap} {n : Nat} {m : List Nat} {X : AS → Prop} (x : Operand) (i : Nat) : doD false C al id ⟨d, .extract x i, ty, pos, aft, g⟩ ⟨T, h, n, m⟩ X = doOp C al ⟨d, .extract x i, ty, pos, aft, g⟩ ⟨T, h, id, m⟩ (resetN n X) := doD_op rfl rfl fun _ _ _ => rfl
theorem doD_frz {C : Ctx} {al : Array Oper} {id : Nat} {d : Option Tmp} {ty : TypeId} {pos : String} {aft : Array Edge} {T : Tab AV} {h : Heap} {n : Nat} {m : List Nat} {X : AS → Prop} (t : TypeId) (k : Nat) (ps : Array (Nat × Operand)) :
    doD true C al id ⟨d, .buildSlice t k ps, ty, pos, aft, none⟩ ⟨T, h, n, m⟩ X = obV (frzA C.P t k (ps.toList.map fun p => (p.1, (AS.mk T h n m).ev p.2))) d ⟨T, h, n, m⟩ X := by
  unfold doD obV ob opD
  simp only [callOf, nilCmp, true_and, Bool.true_eq_false, exists_eq_left, false_implies, true_implies]
  cases frzA C.P t k (ps.toList.map fun p => (p.1, (AS.mk T h n m).ev p.2)) with
  | none => simp
  | some v => cases d <;> simp <;> rfl
theorem doD_len {C : Ctx} {al : Array Oper} {id : Nat} {d : Option Tmp} {ty : TypeId} {pos : String} {aft : Array Edge} {g : Option (Nat × Bool)} {T : Tab AV} {h : Heap} {n : Nat} {m : List Nat} {X : AS → Prop} (as : Array Operand) (tys : Array TypeId) : doD false C al id ⟨d, .call { callee := .builtin .len, args := as, argTypes := tys }, ty, pos, aft, g⟩ ⟨T, h, n, m⟩ X = doOp C al ⟨d, .call { callee := .builtin .len, args := as, argTypes := tys }, ty, pos, aft, g⟩ ⟨T, h, id, m⟩ (resetN n X) := doD_op rfl rfl fun _ _ _ => rfl
theorem doD_append {C : Ctx} {al : Array Oper} {id : Nat} {d : Option Tmp} {ty : TypeId} {pos : String} {aft : Array Edge} {g : Option (Nat × Bool)} {T : Tab AV} {h : Heap} {n : Nat} {m : List Nat} {X : AS → Prop} (as : Array Operand) (tys : Array TypeId) : doD false C al id ⟨d, .call { callee := .builtin .append, args := as, argTypes := tys }, ty, pos, aft, g⟩ ⟨T, h, n, m⟩ X = doOp C al ⟨d, .call { callee := .builtin .append, args := as, argTypes := tys }, ty, pos, aft, g⟩ ⟨T, h, id, m⟩ (resetN n X) := doD_op rfl rfl fun _ _ _ => rfl

/-- What is left of such a region; what is behind it. -/
def xdK (C : Ctx) (al : Array Oper) (L : Loc) (b i : Nat) (l : List Oper) (K : AS → Prop) (σ : AS) : Prop := XD C al L b i l σ K
def drawK (C : Ctx) (Q : Exit → AS → Prop) (k : List XI) (n : Nat) (σ : AS) : Prop := xt C Q k { σ with next := n }
theorem locOk_0 (cl : Nat → Nat) (o : Oper) (σ : AS) : locOk cl 0 o σ = True := by simp [locOk]
theorem xdK_cons0 {C : Ctx} {al : Array Oper} {b i : Nat} {o : Oper} {l : List Oper} {K : AS → Prop} (T : Tab AV) (h : Heap) (n : Nat) (m : List Nat) : xdK C al L0 b i (o :: l) K ⟨T, h, n, m⟩ = doD false C al (b + i) o ⟨T, h, n, m⟩ (xdK C al L0 b (i + 1) l K) := by
  have : xdK C al L0 b i (o :: l) K ⟨T, h, n, m⟩ = (locOk L0.cl (L0.loc.getD i 0) o ⟨T, h, n, m⟩ ∧ doD (L0.frz.getD i false) C al (b + i) o ⟨T, h, n, m⟩ (xdK C al L0 b (i + 1) l K)) := rfl
  rw [this]
  simp [L0, locOk_0]
theorem xdK_consL {C : Ctx} {al : Array Oper} {cl : Nat → Nat} {ls : List Nat} {fs : List Bool} {b i : Nat} {o : Oper} {l : List Oper} {K : AS → Prop} (T : Tab AV) (h : Heap) (n : Nat) (m : List Nat) : xdK C al ⟨cl, ls, fs⟩ b i (o :: l) K ⟨T, h, n, m⟩ = (locOk cl (ls.getD i 0) o ⟨T, h, n, m⟩ ∧ doD (fs.getD i false) C al (b + i) o ⟨T, h, n, m⟩ (xdK C al ⟨cl, ls, fs⟩ b (i + 1) l K)) := rfl
theorem xdK_nil {C : Ctx} {al : Array Oper} {L : Loc} {b i : Nat} {K : AS → Prop} (T : Tab AV) (h : Heap) (n : Nat) (m : List Nat) : xdK C al L b i [] K ⟨T, h, n, m⟩ = K ⟨T, h, n, m⟩ := rfl
theorem drawK_mk {C : Ctx} {Q : Exit → AS → Prop} {k : List XI} {n0 : Nat} (T : Tab AV) (h : Heap) (n : Nat) (m : List Nat) : drawK C Q k n0 ⟨T, h, n, m⟩ = xt C Q k ⟨T, h, n0, m⟩ := rfl
/-- A region whose order is open: the walk stops here. -/
def drawX (C : Ctx) (Q : Exit → AS → Prop) (k : List XI) (ops : Array Oper) (σ : AS) : Prop := ∃ L : Loc, drawOk L.loc ops = true ∧ xdK C ops L σ.next 0 ops.toList (drawK C Q k (σ.next + ops.size)) σ
theorem xt_drawK {C : Ctx} {Q : Exit → AS → Prop} {k : List XI} (i : Nat) (ops : Array Oper) (T : Tab AV) (h : Heap) (n : Nat) (m : List Nat) : xt C Q (.code (.region i ops true) :: k) ⟨T, h, n, m⟩ = drawX C Q k ops ⟨T, h, n, m⟩ := by rw [xt_draw]; rfl
theorem draw0 {C : Ctx} {Q : Exit → AS → Prop} {k : List XI} {ops : Array Oper} {T : Tab AV} {h : Heap} {n : Nat} {m : List Nat} (hd : drawOk [] ops = true) (hx : xdK C ops L0 n 0 ops.toList (drawK C Q k (n + ops.size)) ⟨T, h, n, m⟩) : drawX C Q k ops ⟨T, h, n, m⟩ := ⟨L0, hd, hx⟩
theorem drawL (cl : Nat → Nat) (ls : List Nat) (fs : List Bool) {C : Ctx} {Q : Exit → AS → Prop} {k : List XI} {ops : Array Oper} {T : Tab AV} {h : Heap} {n : Nat} {m : List Nat} (hd : drawOk ls ops = true) (hx : xdK C ops ⟨cl, ls, fs⟩ n 0 ops.toList (drawK C Q k (n + ops.size)) ⟨T, h, n, m⟩) : drawX C Q k ops ⟨T, h, n, m⟩ := ⟨⟨cl, ls, fs⟩, hd, hx⟩

section
variable {cl : Nat → Nat} {c : Nat} {σ : AS} {d : Option Tmp} {ty : TypeId} {pos : String} {aft : Array Edge} {g : Option (Nat × Bool)}
theorem locOk_of {cl : Nat → Nat} {c : Nat} {o : Oper} {σ : AS} {P : Prop} (h1 : callOf o.op = none) (h2 : (∀ x ∈ o.op.operands, topOk cl (c + 1) (σ.ev x)) ↔ P) : locOk cl (c + 1) o σ = P := by
  apply propext
  unfold locOk
  rw [← h2]
  constructor
  · rintro (h | h)
    · omega
    · exact h.2
  · exact fun h => .inr ⟨h1, h⟩
theorem locOk_load (t : TypeId) (a : Operand) : locOk cl (c + 1) ⟨d, .load t a, ty, pos, aft, g⟩ σ = topOk cl (c + 1) (σ.ev a) := locOk_of rfl (by simp [Op.operands])
theorem locOk_store (t : TypeId) (a x : Operand) : locOk cl (c + 1) ⟨d, .store t a x, ty, pos, aft, g⟩ σ = (topOk cl (c + 1) (σ.ev a) ∧ topOk cl (c + 1) (σ.ev x)) := locOk_of rfl (by simp [Op.operands])
theorem locOk_bin (o : BinOp) (t : TypeId) (x y : Operand) (yt : TypeId) : locOk cl (c + 1) ⟨d, .binOp o t x y yt, ty, pos, aft, g⟩ σ = (topOk cl (c + 1) (σ.ev x) ∧ topOk cl (c + 1) (σ.ev y)) := locOk_of rfl (by simp [Op.operands])
theorem locOk_fieldAddr (t : TypeId) (x : Operand) (f : Nat) : locOk cl (c + 1) ⟨d, .fieldAddr t x f, ty, pos, aft, g⟩ σ = topOk cl (c + 1) (σ.ev x) := locOk_of rfl (by simp [Op.operands])
theorem locOk_indexAddr (t : TypeId) (x i : Operand) : locOk cl (c + 1) ⟨d, .indexAddr t x i, ty, pos, aft, g⟩ σ = (topOk cl (c + 1) (σ.ev x) ∧ topOk cl (c + 1) (σ.ev i)) := locOk_of rfl (by simp [Op.operands])
theorem topOk_any : topOk cl c .any = True := by simp [topOk, topId]
theorem topOk_sc (v : Value) : topOk cl c (.sc v) = True := by simp [topOk, topId]
theorem topOk_agg (v : List AV) : topOk cl c (.agg v) = True := by simp [topOk, topId]
theorem topOk_emp : topOk cl c .emp = True := by simp [topOk, topId]
theorem topOk_lst (s : Nat) (v : List (List AV)) : topOk cl c (.lst s v) = True := by simp [topOk, topId]
theorem topOk_cptr (v : List AV) : topOk cl c (.cptr v) = True := by simp [topOk, topId]
theorem topOk_own (i g' l : Nat) : topOk cl c (.own i g' l) = (cl i = c) := by simp [topOk, topId]
theorem topOk_ptr (i o : Nat) : topOk cl c (.ptr i o) = (cl i = c) := by simp [topOk, topId]
theorem topOk_eptr (i g' l o : Nat) : topOk cl c (.eptr i g' l o) = (cl i = c) := by simp [topOk, topId]
end

/-- A call there: one that leaves the heap alone wherever it is made. -/
def callD (C : Ctx) (f : AV) (as : List AV) (d : Option Tmp) (σ : AS) (X : AS → Prop) : Prop := ∃ r, PureCall C.P σ.heap f as r ∧ X (σ.put d r)
theorem doD_call {C : Ctx} {al : Array Oper} {id : Nat} {d : Option Tmp} {f : Operand} {args : Array Operand} {tys : Array TypeId} {ty : TypeId} {pos : String} {aft : Array Edge} {σ : AS} {X : AS → Prop} :
    doD false C al id ⟨d, .call { callee := .value f, args := args, argTypes := tys }, ty, pos, aft, none⟩ σ X = callD C (σ.ev f) (args.toList.map σ.ev) d σ X := by
  unfold doD callD
  simp [callOf]

def guardD (v : AV) (want : Bool) (C : Ctx) (al : Array Oper) (id : Nat) (o : Oper) (σ : AS) (X : AS → Prop) : Prop := (∃ b, v = .sc (.bool b) ∧ ((b == want) = false → X (σ.put o.dst (.sc undef))) ∧ ((b == want) = true → doD false C al id o σ X)) ∨ (v = .sc undef ∧ X (σ.put o.dst (.sc undef)))
theorem guardD_true {C : Ctx} {al : Array Oper} {id : Nat} {o : Oper} {σ : AS} {X : AS → Prop} : guardD (.sc (.bool true)) true C al id o σ X = doD false C al id o σ X := by simp [guardD, undef]
theorem guardD_ff {C : Ctx} {al : Array Oper} {id : Nat} {o : Oper} {σ : AS} {X : AS → Prop} : guardD (.sc (.bool false)) false C al id o σ X = doD false C al id o σ X := by simp [guardD, undef]
theorem guardD_tf {C : Ctx} {al : Array Oper} {id : Nat} {o : Oper} {σ : AS} {X : AS → Prop} : guardD (.sc (.bool true)) false C al id o σ X = X (σ.put o.dst (.sc undef)) := by simp [guardD, undef]
theorem guardD_ft {C : Ctx} {al : Array Oper} {id : Nat} {o : Oper} {σ : AS} {X : AS → Prop} : guardD (.sc (.bool false)) true C al id o σ X = X (σ.put o.dst (.sc undef)) := by simp [guardD, undef]
theorem guardD_undef {C : Ctx} {al : Array Oper} {id : Nat} {o : Oper} {σ : AS} {X : AS → Prop} {want : Bool} : guardD (.sc undef) want C al id o σ X = X (σ.put o.dst (.sc undef)) := by simp [guardD, undef]
theorem doD_gcall {C : Ctx} {al : Array Oper} {id : Nat} {d : Option Tmp} {f : Operand} {args : Array Operand} {tys : Array TypeId} {ty : TypeId} {pos : String} {aft : Array Edge} {j : Nat} {want : Bool} {σ : AS} {X : AS → Prop} :
    doD false C al id ⟨d, .call { callee := .value f, args := args, argTypes := tys }, ty, pos, aft, some (j, want)⟩ σ X = guardD (gv al σ j) want C al id ⟨d, .call { callee := .value f, args := args, argTypes := tys }, ty, pos, aft, none⟩ σ X := by
  unfold guardD doD
  simp only [eq_iff_iff]
  constructor
  · rintro ⟨t, ⟨b, h1, rfl⟩ | ⟨h1, rfl⟩, h2, h3⟩
    · exact .inl ⟨b, h1, h2, fun hb => ⟨true, rfl, fun h => (by cases h), fun _ => h3 hb⟩⟩
    · exact .inr ⟨h1, h2 rfl⟩
  · rintro (⟨b, h1, h2, h3⟩ | ⟨h1, h2⟩)
    · refine ⟨b == want, .inl ⟨b, h1, rfl⟩, h2, fun hb => ?_⟩
      obtain ⟨t, rfl, _, h4⟩ := h3 hb
      exact h4 rfl
    · exact ⟨false, .inr ⟨h1, rfl⟩, fun _ => h2, fun h => (by cases h)⟩

theorem doD_gslice {C : Ctx} {al : Array Oper} {id : Nat} {d : Option Tmp} {t : TypeId} {x : Operand} {lo hi mx : Option Operand} {ty : TypeId} {pos : String} {aft : Array Edge} {j : Nat} {want : Bool} {σ : AS} {X : AS → Prop} :
    doD false C al id ⟨d, .slice t x lo hi mx, ty, pos, aft, some (j, want)⟩ σ X = guardD (gv al σ j) want C al id ⟨d, .slice t x lo hi mx, ty, pos, aft, none⟩ σ X := by
  unfold guardD doD
  simp only [eq_iff_iff]
  constructor
  · rintro ⟨t, ⟨b, h1, rfl⟩ | ⟨h1, rfl⟩, h2, h3⟩
    · exact .inl ⟨b, h1, h2, fun hb => ⟨true, rfl, fun h => (by cases h), fun _ => h3 hb⟩⟩
    · exact .inr ⟨h1, h2 rfl⟩
  · rintro (⟨b, h1, h2, h3⟩ | ⟨h1, h2⟩)
    · refine ⟨b == want, .inl ⟨b, h1, rfl⟩, h2, fun hb => ?_⟩
      obtain ⟨t, rfl, _, h4⟩ := h3 hb
      exact h4 rfl
    · exact ⟨false, .inr ⟨h1, rfl⟩, fun _ => h2, fun h => (by cases h)⟩

theorem Refs.aggF {A : Nat → Prop} {cs : List AV} (h : cs.all AV.noRef = true) : Refs A (.agg cs) := .agg fun c hc => .noRef (List.all_eq_true.1 h c hc)
theorem Refs.tupF {A : Nat → Prop} {cs : List AV} (h : ∀ c ∈ cs, Refs A c) : Refs A (.tup cs) := .tup h
theorem callD_fn {C : Ctx} {g : FuncId} {caps as : List AV} {d : Option Tmp} {σ : AS} {X : AS → Prop} (r : AV) (hr : Refs (fun _ => False) r) (hp : ∀ h nx K, K r h nx → ACall C.P g (as ++ caps) h nx K) (hx : X (σ.put d r)) : callD C (.fn (.func g) caps) as d σ X :=
  ⟨r, ⟨hr, fun h' nx K' _ hk => ACallV.of_fn (hp h' nx K' hk)⟩, hx⟩

/-! ### What lies below -/

theorem over_refl {nx : Nat} {h : Heap} : ∀ j, j < nx → look j h = look j h := fun _ _ => rfl
theorem over_hc {n nx : Nat} {h h0 : Heap} {o : AObj} (hn : nx ≤ n) (ho : ∀ j, j < nx → look j h = look j h0) : ∀ j, j < nx → look j (hc n o h) = look j h0 := fun j hj => by
  have : ¬ n = j := by omega
  simp only [look_hc, this, if_false]
  exact ho j hj
theorem over_upd {n nx : Nat} {h h0 : Heap} {o : AObj} (hn : nx ≤ n) (ho : ∀ j, j < nx → look j h = look j h0) : ∀ j, j < nx → look j (upd n o h) = look j h0 := fun j hj => by
  have : ¬ j = n := by omega
  simp only [look_upd, this, if_false]
  exact ho j hj

theorem over_del {n nx : Nat} {h h0 : Heap} (hn : nx ≤ n) (ho : ∀ j, j < nx → look j h = look j h0) : ∀ j, j < nx → look j (del n h) = look j h0 := fun j hj => by
  have : ¬ j = n := by omega
  simp only [look_del, this, if_false]
  exact ho j hj

theorem natNe {a b : Nat} (h : a ≠ b) : (a = b) = False := eq_false h

/-! ### Lists -/

/-- A place in a list as Go has it: -1: there is none. -/
def idxI : Option Nat → Int
  | some i => i
  | none => -1

theorem wrap_i64 {n : Int} (h1 : -9223372036854775808 ≤ n) (h2 : n ≤ 9223372036854775807) : IntKind.i64.wrap n = n := by
  simp only [IntKind.wrap, IntKind.signed, IntKind.bits]
  simp
  omega
theorem wrap_1 : IntKind.i64.wrap (0 + 1) = 1 := by decide
theorem wrap_2 : IntKind.i64.wrap (1 + 1) = 2 := by decide
end Go.Abs

/- The abstract layer, part W: functions that hand out a row of values, one by one (iterators). -/
set_option linter.unusedVariables false
set_option linter.unusedSimpArgs false
namespace Go.Abs
open Go.RowKit

/-- Who is handed the values: J n M h: n values are taken; M: the objects that he may turn; the heap is h. JX: he has had enough. -/
structure Taker where
  J : Nat → (Nat → Prop) → Heap → Prop
  JX : Nat → (Nat → Prop) → Heap → Prop
  stJ : ∀ n M h h', J n M h → (∀ j, M j → look j h' = look j h) → J n M h'
  stX : ∀ n M h h', JX n M h → (∀ j, M j → look j h' = look j h) → JX n M h'

/-- What the taker's function does with each value. -/
def Taker.Ok (t : Taker) (P : Program) (y : AV) (xs : List (List AV)) : Prop :=
  ∀ n x M h nx, xs[n]? = some x → t.J n M h → (∀ j, M j → j < nx) → ∀ K : AV → Heap → Nat → Prop,
    (∀ b h' nx' M', nx ≤ nx' → (∀ j, M' j → M j ∨ (nx ≤ j ∧ j < nx')) → (∀ j, j < nx → ¬ M j → look j h' = look j h) → (b = true → t.J (n + 1) M' h') → (b = false → t.JX (n + 1) M' h') → K (.sc (.bool b)) h' nx') → ACallV P y x h nx K

/-- What holds behind it all. -/
def Taker.End (t : Taker) (xs : List (List AV)) (M0 : Nat → Prop) (h0 : Heap) (nx0 : Nat) (K : AV → Heap → Nat → Prop) : Prop :=
  ∀ n h' nx' M', nx0 ≤ nx' → (∀ j, M' j → M0 j ∨ (nx0 ≤ j ∧ j < nx')) → (∀ j, j < nx0 → ¬ M0 j → look j h' = look j h0) → ((n = xs.length ∧ t.J n M' h') ∨ (n ≤ xs.length ∧ t.JX n M' h')) → K (.tup []) h' nx'
end Go.Abs

/- The abstract layer, part X: own arrays lent to a call that only reads; own arrays frozen for good. -/
set_option linter.unusedVariables false
set_option linter.unusedSimpArgs false
namespace Go.Abs
open Go.RowKit

section
variable {P : Program}

theorem FzL.rels {G : Gh} {w : World} {A A' : Nat → Prop} {h h' : Heap} {p : Nat → Prop} (S : SatH G w A h) (hA' : ∀ j, A j → ¬ p j → A' j) (hsub : ∀ j o, look j h' = some o → look j h = some o) {cs ds : List AV} (f : FzL p h cs ds) {vs : List Value} (r : Rels G w A h cs vs) : Rels (G.frz h p) w A' h' ds vs := by
  refine ⟨by rw [← f.1]; exact r.1, fun j d hj => ?_⟩
  have hl : j < cs.length := by rw [f.1]; exact (List.getElem?_eq_some_iff.1 hj).1
  have hc : cs[j]? = some cs[j] := List.getElem?_eq_getElem hl
  exact freezeVal S hA' hsub (f.2 j _ d hc hj) (r.2 j _ hc)

/-- A box of plain values. -/
def plainBox (o : AObj) : Prop := ∃ vs : List Value, o = .box (vs.map .sc)

/-- Own arrays are lent: the call reads them as frozen ones, and tells a plain value. What it may look at: boxes of plain values. -/
theorem ACallV.borrow {fv fv' : AV} {args args' : List AV} {h h1 : Heap} {nx : Nat} {K : AV → Heap → Nat → Prop} {r : Value} (p : Nat → Prop)
    (h1s : ∀ j o, look j h1 = some o → look j h = some o) (h1R : ∀ j o, look j h1 = some o → ¬ p j ∧ plainBox o)
    (hf : Fz p h fv fv') (ha : FzL p h args args')
    (hc : ∀ K', K' (.sc r) h1 nx → ACallV P fv' args' h1 nx K') (hk : K (.sc r) h nx) : ACallV P fv args h nx K := by
  intro G w x vs S rf rs
  have S1 : SatH (G.frz h p) w (below nx) h1 := freezeHeap S h1s (fun j o hj => (h1R j o hj).1) (fun j o hj => (S.obj j o (h1s j o hj)).1) (fun j o hj => by
    obtain ⟨_, us, rfl⟩ := h1R j o hj
    intro c hc
    obtain ⟨u, _, rfl⟩ := List.mem_map.1 hc
    exact .noRef rfl)
  have rf1 := freezeVal S (A' := below nx) (fun j hj _ => hj) h1s hf rf
  have rs1 := ha.rels S (A' := below nx) (fun j hj _ => hj) h1s rs
  refine (hc (fun r' h' nx' => r' = .sc r ∧ h' = h1 ∧ nx' = nx) ⟨rfl, rfl, rfl⟩ (G.frz h p) w x vs S1 rf1 rs1).mono fun e w' hl => ?_
  obtain ⟨v, r', h', nx', G', rfl, ⟨rfl, rfl, rfl⟩, S', E, rv⟩ := hl
  have hv := rv.sc_inv
  subst hv
  have hblk : ∀ b, b < w.heap.size → ¬ InHeap (G.frz h p) h' b → w'.heap[b]? = w.heap[b]? := E.frame
  have hzh : ∀ b, G.Z b → ¬ InHeap (G.frz h p) h' b := fun b hz ⟨i, o, a, hi, hloc, hb⟩ => S.zdis i o a (h1s i o hi) hloc (by rw [hb]; exact hz)
  have C : Compat G w G w' (below nx') h (below nx') h := by
    refine ⟨fun _ h => h, cellZ S fun b hz => hblk b (S.zin b hz) (hzh b hz), fun _ h => h, fun _ _ => objCompat_refl _ _⟩
  have O : ∀ id o, look id h = some o → RelO G w' (below nx') h id o := by
    intro id o hid
    have ro := (S.obj id o hid).2
    cases hi : look id h' with
    | none =>
      refine ro.compat C rfl rfl fun a hloc => hblk _ (ro.lt hloc) ?_
      rintro ⟨j, oj, aj, hj, hjl, hjb⟩
      have hne : j ≠ id := fun e => by rw [e, hi] at hj; cases hj
      exact S.inj j id oj o aj a (h1s j oj hj) hid hne hjl hloc hjb
    | some o' =>
      obtain ⟨hnp, us, rfl⟩ := h1R id o' hi
      have := h1s id _ hi
      rw [hid] at this
      cases this
      obtain ⟨b, T, vs0, g1, g2, g3, g4⟩ := ro
      obtain ⟨b', T', vs1, k1, k2, k3, k4⟩ := (S'.obj id _ hi).2
      have hb : b' = b := by
        have hp0 : Rel (G.frz h p) w (below nx') h' (.ptr id 0) (.pointer (some ⟨b, 0, none⟩)) := .ptr _ _ _ _ _ (S.obj id _ hid).1 rfl fun cs _ => ⟨b, g1, rfl⟩
        obtain ⟨_, _, h3⟩ := (E.rel _ _ hp0).ptr_inv
        obtain ⟨b2, h4, h5⟩ := h3 _ hi
        rw [k1] at h4
        cases h4
        cases h5
        rfl
      subst hb
      have hvs : vs1.toList = vs0.toList := by
        have det : ∀ (G : Gh) (w : World) (h : Heap) (l : List Value), Rels G w (below nx') h (us.map .sc) l → l = us := by
          intro G w h l hl
          apply List.ext_getElem?
          intro j
          have hlen : us.length = l.length := by simpa using hl.1
          rcases Nat.lt_or_ge j us.length with q | q
          · have h1 := hl.2 j (.sc us[j]) (by simp [q])
            have h2 := h1.sc_inv
            have q2 : j < l.length := by omega
            rw [List.getElem?_eq_getElem q, List.getElem?_eq_getElem q2, ← h2]
            simp [List.getD_eq_getElem?_getD, q2]
          · rw [List.getElem?_eq_none q, List.getElem?_eq_none (by omega)]
        rw [det _ _ _ _ g3, det _ _ _ _ k3]
      refine ⟨b', T', vs1, g1, k2, ?_, k4⟩
      rw [hvs]
      exact ⟨g3.1, fun j c hj => (g3.2 j c hj).compat C⟩
  refine ⟨v, .sc v, h, nx', G, rfl, hk, ⟨fun id o hid => ⟨(S.obj id o hid).1, O id o hid⟩, S.inj, S.zdis, fun b hb => Nat.lt_of_lt_of_le (S.zin b hb) E.size⟩, ⟨E.os, E.tape, E.output, E.size, fun b hb hn => ?_, fun b hb => .inl hb, fun b hb => .inl hb, fun _ h => h, fun v x hr => hr.compat C⟩, .sc ..⟩
  refine hblk b hb fun ⟨i, o, a, hi, hloc, he⟩ => hn ⟨i, o, a, h1s i o hi, hloc, he⟩

/-- Own arrays are frozen for good: behind the call they are not there any more. -/
theorem ACallV.freeze {fv fv' : AV} {args args' : List AV} {h h1 : Heap} {nx : Nat} {K : AV → Heap → Nat → Prop} (p : Nat → Prop)
    (h1s : ∀ j o, look j h1 = some o → look j h = some o) (h1p : ∀ j o, look j h1 = some o → ¬ p j) (hf : Fz p h fv fv') (ha : FzL p h args args') (hc : ACallV P fv' args' h1 nx K) : ACallV P fv args h nx K := by
  intro G w x vs S rf rs
  have S1 : SatH (G.frz h p) w (below nx) h1 := freezeHeap S h1s h1p (fun j o hj => (S.obj j o (h1s j o hj)).1) (fun j o hj => (S.obj j o (h1s j o hj)).2.refs)
  have rf1 := freezeVal S (A' := below nx) (fun j hj _ => hj) h1s hf rf
  have rs1 := ha.rels S (A' := below nx) (fun j hj _ => hj) h1s rs
  have E1 : Evo G w (below nx) h (G.frz h p) w (below nx) h1 := by
    refine ⟨rfl, rfl, rfl, Nat.le_refl _, fun _ _ _ => rfl, fun b hb => ?_, fun b hb => ?_, fun _ h => h, fun v x hv => Rel.restrict hv.refs (fun _ h => h) h1s (hv.frz _ _)⟩
    · obtain ⟨i, o, a, hi, hloc, he⟩ := hb
      exact .inl ⟨i, o, a, h1s i o hi, hloc, he⟩
    · rcases hb with hb | ⟨i, o, a, _, hl, hloc, he⟩
      · exact .inl hb
      · exact .inr (.inl ⟨i, o, a, hl, hloc, he⟩)
  refine (hc _ w x vs S1 rf1 rs1).mono fun e w' hl => ?_
  obtain ⟨v, r', h', nx', G', rfl, hk, S', E, rv⟩ := hl
  exact ⟨v, r', h', nx', G', rfl, hk, S', E1.trans E, rv⟩

/-- The same, of a function. -/
theorem Fz.fn0 {p : Nat → Prop} {h : Heap} (g : FuncId) : Fz p h (.fn (.func g) []) (.fn (.func g) []) := .fn rfl fun j c d hj _ => by simp at hj

theorem ACallV.of_fn0 {g : FuncId} {args : List AV} {h : Heap} {nx : Nat} {K : AV → Heap → Nat → Prop} (c : ACall P g args h nx K) : ACallV P (.fn (.func g) []) args h nx K := .of_fn (by simpa using c)
end

section
variable {C : Ctx} {T : Tab AV} {h : Heap} {nx : Nat} {m : List Nat}
/-- A call in a walk, own arrays lent. -/
theorem callX_borrow {fv fv' : AV} {args args' : List AV} {d : Option Tmp} {X : AS → Prop} {r : Value} (p : Nat → Prop) (h1 : Heap)
    (h1s : ∀ j o, look j h1 = some o → look j h = some o) (h1R : ∀ j o, look j h1 = some o → ¬ p j ∧ plainBox o) (hf : Fz p h fv fv') (ha : FzL p h args args')
    (hc : ∀ K', K' (.sc r) h1 nx → ACallV C.P fv' args' h1 nx K') (hk : X { (AS.put ⟨T, h, nx, m⟩ d (.sc r)) with heap := h, next := nx }) : callX C fv args d ⟨T, h, nx, m⟩ X :=
  ACallV.borrow p h1s h1R hf ha hc hk
/-- The same, where the call looks at no box. -/
theorem callX_lend {g : FuncId} {args args' : List AV} {d : Option Tmp} {X : AS → Prop} {r : Value} (p : Nat → Prop) (ha : FzL p h args args')
    (hc : ∀ K', K' (.sc r) nil' nx → ACall C.P g args' nil' nx K') (hk : X { (AS.put ⟨T, h, nx, m⟩ d (.sc r)) with heap := h, next := nx }) : callX C (.fn (.func g) []) args d ⟨T, h, nx, m⟩ X :=
  ACallV.borrow p (h1 := nil') (fun j o hj => by simp [look_nil] at hj) (fun j o hj => by simp [look_nil] at hj) (.fn0 g) ha (fun K' hk => .of_fn0 (hc K' hk)) hk

/-- The same in a region whose order is open: an own array of plain rows, and a function that looks at no box. -/
theorem callD_lend {g : FuncId} {d : Option Tmp} {σ : AS} {X : AS → Prop} {id g' sz : Nat} {L : List (List AV)} (r : Value) (hl : look id σ.heap = some (.arr g' sz L)) (hn : ∀ cs ∈ L, ∀ c ∈ cs, c.noRef = true)
    (hc : ∀ h nx K, K (.sc r) h nx → ACall C.P g [.lst sz L] h nx K) (hx : X (σ.put d (.sc r))) : callD C (.fn (.func g) []) [.own id g' 0] d σ X := by
  refine ⟨.sc r, ⟨.noRef rfl, fun h' nx' K' hs hk => ?_⟩, hx⟩
  have h2 : look id h' = some (.arr g' sz L) := by
    rw [hs id (.inr ⟨_, List.mem_singleton.2 rfl, fun A hA _ => hA.top rfl⟩)]
    exact hl
  refine ACallV.borrow (fun k => k = id) (h1 := nil') (fun j o hj => by simp [look_nil] at hj) (fun j o hj => by simp [look_nil] at hj) (.fn0 g) (args' := [.lst sz L]) ?_ (fun K' hk => .of_fn0 (hc _ _ K' hk)) hk
  exact .cons (.own rfl h2 hn rfl) (.nil _ _)
end

/-! ### A slice held against nil -/

/-- What a slice that is held against nil leaves open: it may be nil only if it is empty. -/
def nilX (v : Option (List (List AV))) (n : Bool) (d : Option Tmp) (σ : AS) (X : AS → Prop) : Prop := ∃ ls, v = some ls ∧ ∀ b : Bool, (ls ≠ [] → b = false) → X (σ.put d (.sc (.bool (b != n))))

theorem nilX_mk {ls : List (List AV)} {n : Bool} {d : Option Tmp} {σ : AS} {X : AS → Prop} (h1 : (ls = [] → X (σ.put d (.sc (.bool (true != n))))) ) (h2 : X (σ.put d (.sc (.bool (false != n))))) : nilX (some ls) n d σ X := by
  refine ⟨ls, rfl, fun b hb => ?_⟩
  cases b with
  | false => exact h2
  | true => exact h1 (by
      cases ls with
      | nil => rfl
      | cons a l => have := hb (by simp); cases this)

theorem nilX_eq {ls : List (List AV)} {d : Option Tmp} {σ : AS} {X : AS → Prop} (h1 : (ls = [] → X (σ.put d (.sc (.bool true)))) ) (h2 : X (σ.put d (.sc (.bool false)))) : nilX (some ls) false d σ X := nilX_mk h1 h2
theorem nilX_ne {ls : List (List AV)} {d : Option Tmp} {σ : AS} {X : AS → Prop} (h1 : (ls = [] → X (σ.put d (.sc (.bool false)))) ) (h2 : X (σ.put d (.sc (.bool true)))) : nilX (some ls) true d σ X := nilX_mk h1 h2

def nilY (e : Option TypeId) (C : Ctx) (al : Array Oper) (o : Oper) (v : Option (List (List AV))) (n : Bool) (d : Option Tmp) (σ : AS) (X : AS → Prop) : Prop := match e with
  | some _ => nilX v n d σ X
  | none => doOp C al o σ X
theorem nilY_some {e : TypeId} {C : Ctx} {al : Array Oper} {o : Oper} {v : Option (List (List AV))} {n : Bool} {d : Option Tmp} {σ : AS} {X : AS → Prop} : nilY (some e) C al o v n d σ X = nilX v n d σ X := rfl

theorem doOp_nileq {C : Ctx} {al : Array Oper} {d : Option Tmp} {ty : TypeId} {pos : String} {aft : Array Edge} {σ : AS} {X : AS → Prop} (t : TypeId) (x : Operand) (yt : TypeId) :
    doOp C al ⟨d, .binOp .eql t x (.const (.slice none 0 0)) yt, ty, pos, aft, none⟩ σ X = nilY ((tiOf C.P t).bind fun ti => ti.elem) C al ⟨d, .binOp .eql t x (.const (.slice none 0 0)) yt, ty, pos, aft, none⟩ (elems σ.heap (σ.ev x)) false d σ X := by
  cases ht : tiOf C.P t with
  | none => rfl
  | some ti =>
    cases he : ti.elem with
    | none => simp [nilY, he]
    | some e =>
      simp only [Option.bind_some, he, nilY]
      unfold doOp nilX
      simp [callOf, nilCmp, ht, he]

theorem doOp_nilne {C : Ctx} {al : Array Oper} {d : Option Tmp} {ty : TypeId} {pos : String} {aft : Array Edge} {σ : AS} {X : AS → Prop} (t : TypeId) (x : Operand) (yt : TypeId) :
    doOp C al ⟨d, .binOp .neq t x (.const (.slice none 0 0)) yt, ty, pos, aft, none⟩ σ X = nilY ((tiOf C.P t).bind fun ti => ti.elem) C al ⟨d, .binOp .neq t x (.const (.slice none 0 0)) yt, ty, pos, aft, none⟩ (elems σ.heap (σ.ev x)) true d σ X := by
  cases ht : tiOf C.P t with
  | none => rfl
  | some ti =>
    cases he : ti.elem with
    | none => simp [nilY, he]
    | some e =>
      simp only [Option.bind_some, he, nilY]
      unfold doOp nilX
      simp [callOf, nilCmp, ht, he]

end Go.Abs

/- The abstract layer, part Y: a loop, and what is behind it, each by itself. -/
set_option linter.unusedVariables false
set_option linter.unusedSimpArgs false
namespace Go.Abs
open Go.RowKit

/-- How a loop is left: by the way out of its block, or for good. -/
def cutE (id : Nat) (E : AS → Prop) (Q : Exit → AS → Prop) (e : Exit) (σ : AS) : Prop := match e with
  | .exit i => i = id ∧ E σ
  | e => Q e σ

section
variable {C : Ctx} {Q : Exit → AS → Prop} {k : List XI} {id : Nat} {E : AS → Prop} {σ : AS} {c : Code}
theorem cutE_exit (i : Nat) : cutE id E Q (.exit i) σ = (i = id ∧ E σ) := rfl
theorem cutE_ret : cutE id E Q .ret σ = Q .ret σ := rfl

theorem loopX_cut (E : AS → Prop) (tail : ∀ σ', E σ' → xt C Q k σ') (h : loopX c C (cutE id E Q) [] σ) : loopX c C Q (.inB id :: k) σ := by
  obtain ⟨n, h⟩ := h
  refine ⟨n, XLoopN_mono (body := fun Q' σ' => xt C Q' [.code c] σ') (fun Q1 Q2 hq σ h => xt_mono hq h) (fun e σ' hq => ?_) n σ h⟩
  cases e with
  | exit i =>
    simp only [popExit] at hq ⊢
    obtain ⟨rfl, hE⟩ := hq
    simp only [if_true]
    exact tail σ' hE
  | normal => exact hq
  | goto l => exact hq
  | ret => exact hq
  | panic c => exact hq
  | outgrown => exact hq
end
end Go.Abs
