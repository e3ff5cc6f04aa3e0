/- The abstract layer, part U: a call of yield: one round of the loop that it belongs to. -/
import Derived.Test.YtlmkmmkhfkdagaaAbsT
set_option linter.unusedVariables false
set_option linter.unusedSimpArgs false
namespace Go.Abs
open Go.RowKit

/-- Temporaries bound, one behind the other. -/
def bindT : List Tmp → List AV → Tab AV → Tab AV
  | p :: ps, v :: vs, T => bindT ps vs (hc p v T)
  | _, _, T => T

/-- What a round's end hands back. -/
def endR (lid : Nat) (jump : Option Code) (K : AV → Heap → Nat → Prop) (σ : AS) : Prop :=
  ∃ r, look lid σ.heap = some (.loop r) ∧ K (.sc (.bool jump.isNone)) (upd lid (.loop { r with st := if jump.isNone then .ready else .done, pend := jump }) σ.heap) σ.next

/-- How a round's body may end. -/
def roundQ (lid : Nat) (K : AV → Heap → Nat → Prop) (e : Exit) (σ : AS) : Prop := match e with
  | .normal => endR lid none K σ
  | .ret => endR lid (some .ret) K σ
  | .exit i => endR lid (some (.exit i)) K σ
  | _ => False

/-- How the assignment to a round's variables may end: then the body. -/
def assignQ (P : Program) (nt lid : Nat) (body : Code) (K : AV → Heap → Nat → Prop) (e : Exit) (σ : AS) : Prop := match e with
  | .normal => ∃ r, look lid σ.heap = some (.loop r) ∧ r.st = .ready ∧ xt ⟨P, nt, some lid⟩ (roundQ lid K) [.code body] { σ with heap := upd lid (.loop { r with st := .busy }) σ.heap }
  | _ => False

theorem assignQ_normal {P : Program} {nt lid : Nat} {body : Code} {K : AV → Heap → Nat → Prop} {σ : AS} : assignQ P nt lid body K .normal σ = ∃ r, look lid σ.heap = some (.loop r) ∧ r.st = .ready ∧ xt ⟨P, nt, some lid⟩ (roundQ lid K) [.code body] { σ with heap := upd lid (.loop { r with st := .busy }) σ.heap } := rfl
theorem roundQ_normal {lid : Nat} {K : AV → Heap → Nat → Prop} {σ : AS} : roundQ lid K .normal σ = endR lid none K σ := rfl
theorem roundQ_ret {lid : Nat} {K : AV → Heap → Nat → Prop} {σ : AS} : roundQ lid K .ret σ = endR lid (some .ret) K σ := rfl
theorem roundQ_exit {lid i : Nat} {K : AV → Heap → Nat → Prop} {σ : AS} : roundQ lid K (.exit i) σ = endR lid (some (.exit i)) K σ := rfl

section
variable {P : Program} {G : Gh} {w : World} {A : Nat → Prop} {h : Heap}

theorem bind_sound : ∀ (ps : List Tmp) (as : List AV) (vs : List Value) (T : Tab AV) (tv : Array Value), ps.all (fun p => decide (p < tv.size)) = true → Rels G w A h as vs → (∀ t v, look t T = some v → Rel G w A h v (tv.getD t undef)) →
    (((ps.zip vs).foldl (fun tmps (x : Tmp × Value) => tmps.setIfInBounds x.1 x.2) tv).size = tv.size) ∧ ∀ t v, look t (bindT ps as T) = some v → Rel G w A h v (((ps.zip vs).foldl (fun tmps (x : Tmp × Value) => tmps.setIfInBounds x.1 x.2) tv).getD t undef)
  | [], as, vs, T, tv, _, _, ht => by simpa [bindT] using ht
  | p :: ps, [], vs, T, tv, _, hr, ht => by
    have : vs = [] := List.eq_nil_of_length_eq_zero hr.1.symm
    subst this
    simpa [bindT] using ht
  | p :: ps, a :: as, [], T, tv, _, hr, ht => by simp [Rels] at hr
  | p :: ps, a :: as, v :: vs, T, tv, hp, hr, ht => by
    simp only [List.all_cons, Bool.and_eq_true, decide_eq_true_eq] at hp
    simp only [List.zip_cons_cons, List.foldl_cons, bindT]
    have h0 := hr.2 0 a rfl
    have ht' : ∀ t u, look t (hc p a T) = some u → Rel G w A h u ((tv.setIfInBounds p v).getD t undef) := fun t u hu => by
      rw [look_hc] at hu
      by_cases e : p = t
      · subst e
        simp only [if_true, Option.some.injEq] at hu
        subst hu
        have : (tv.setIfInBounds p v).getD p undef = v := by simp [Array.getD, hp.1]
        rw [this]
        exact h0
      · simp only [e, if_false] at hu
        have : (tv.setIfInBounds p v).getD t undef = tv.getD t undef := by
          simp only [Array.getD_eq_getD_getElem?]
          rw [Array.getElem?_setIfInBounds_ne e]
        rw [this]
        exact ht t u hu
    have ih := bind_sound ps as vs (hc p a T) (tv.setIfInBounds p v) (by simpa using hp.2) ⟨by simpa using hr.1, fun j c hj => hr.2 (j + 1) c (by simpa using hj)⟩ ht'
    simpa using ih

theorem ACallV.yield (hm : P.follows .mixedOrders = true) {nx lid : Nat} {r : ALoop} {args : List AV} {K : AV → Heap → Nat → Prop} (hl : look lid h = some (.loop r)) (hs : args.length = r.params.size)
    (hok : (r.params.toList.all (fun p => decide (p < r.nt)) && codeOk r.nt r.assign && codeOk r.nt r.body) = true)
    (hx : xt ⟨P, r.nt, some lid⟩ (assignQ P r.nt lid r.body K) [.code r.assign] ⟨bindT r.params.toList args r.tmps, h, nx, []⟩) : ACallV P (.yld lid) args h nx K := by
  intro G w x vs S rx rs
  simp only [Bool.and_eq_true] at hok
  obtain ⟨b, hloc, rfl⟩ := rx.yld_inv.2.2 r hl
  obtain ⟨L, hL, hLs, hLp, hLps, hLa, hLb, hLn, hLt, _⟩ := loop_turn S hl rx .ready none
  have hvs : vs.toArray.size = L.params.size := by rw [hLps, ← hs, rs.1]; simp
  have hy := run_yield (P := P) hL hvs
  have hfold : ((L.params.zip vs.toArray).foldl (fun tmps (t, a) => tmps.setIfInBounds t a) L.tmps) = ((r.params.toList.zip vs).foldl (fun tmps (x : Tmp × Value) => tmps.setIfInBounds x.1 x.2) L.tmps) := by
    rw [hLps, ← Array.foldl_toList, Array.toList_zip]
  rw [hfold] at hy
  have hinv : (do let d ← Deferred.ofValue (.func (.yield b) #[] #[]) vs.toArray; invoke d.target d.args : Sem Next).run P w = (Instr.yield b vs.toArray).run P w := by simp [Deferred.ofValue, invoke]
  refine .inr ⟨b, L.fn, _, L.assign, L.body, hinv.trans hy, ?_⟩
  rw [hLa, hLb]
  obtain ⟨hsz, hT⟩ := bind_sound r.params.toList args vs r.tmps L.tmps (by rw [hLn]; exact hok.1.1) rs hLt
  refine roundIn_of_wpIn trivial ?_
  have k : Ok ⟨P, r.nt, some lid⟩ ⟨G, w, below nx, h⟩ (some b) G ⟨bindT r.params.toList args r.tmps, h, nx, []⟩ { tmps := (r.params.toList.zip vs).foldl (fun tmps (x : Tmp × Value) => tmps.setIfInBounds x.1 x.2) L.tmps, defers := [] } w := by
    refine ⟨S, hT, by rw [← hLn]; exact hsz, ⟨[], rfl, rfl, fun j id b hj => by simp at hj⟩, Evo.refl .., fun r' hr' => ?_, fun h => by cases h⟩
    cases hr'
    exact ⟨b, rfl, rx⟩
  have h1 := xt_sound (C := ⟨P, r.nt, some lid⟩) (O := ⟨G, w, below nx, h⟩) (l := some b) hm _ [.code r.assign] _ _ (Nat.le_refl _) (by simpa [XI.ok] using hok.1.2) hx G _ w k
  simp only [kq] at h1
  refine wpIn_mono h1 fun e a1 w1 hq => ?_
  obtain ⟨σ1, G1, hq, k1⟩ := hq
  cases e with
  | normal =>
    obtain ⟨r1, hl1, hst1, hx1⟩ := hq
    obtain ⟨l0, hl0, ry⟩ := k1.rnd lid rfl
    cases hl0
    obtain ⟨L1, hL1, hLs1, hLp1, _, _, _, _, _, S2, E2⟩ := loop_turn k1.sat hl1 ry .busy r1.pend
    have hbr := run_beginRound (P := P) hL1 (by rw [hLs1]; exact hst1)
    refine ⟨_, hbr, ?_⟩
    have hrec : ({ L1 with state := .busy, pending := r1.pend } : Loop) = { L1 with state := .busy } := by rw [← hLp1]
    rw [hrec] at S2 E2
    have k2 : Ok ⟨P, r.nt, some lid⟩ ⟨G, w, below nx, h⟩ (some b) G1 { σ1 with heap := upd lid (.loop { r1 with st := .busy }) σ1.heap } a1 (w1.putObj b (.loop { L1 with state := .busy })) := by
      refine ⟨S2, fun t v hv => E2.rel _ _ (k1.tmps t v hv), k1.size, ?_, k1.evo.trans E2, fun r' hr' => ?_, k1.nornd⟩
      · obtain ⟨bs, h5, h6, h7⟩ := k1.defers
        exact ⟨bs, h5, h6, fun j id b hj hb => E2.rel _ _ (h7 j id b hj hb)⟩
      · obtain ⟨l1, h5, h6⟩ := k1.rnd r' hr'
        exact ⟨l1, h5, E2.rel _ _ h6⟩
    have h2 := xt_sound (C := ⟨P, r.nt, some lid⟩) (O := ⟨G, w, below nx, h⟩) (l := some b) hm _ [.code r.body] _ _ (Nat.le_refl _) (by simpa [XI.ok] using hok.2) hx1 G1 _ _ k2
    simp only [kq] at h2
    refine wpIn_mono h2 fun e a3 w3 hq => ?_
    obtain ⟨σ3, G3, hq, k3⟩ := hq
    have fin : ∀ jump, endR lid jump K σ3 → ∃ v w', (Instr.endRound b jump).run P w3 = .ok v w' ∧ Left G w h nx K (.returned v) w' := by
      rintro jump ⟨r3, hl3, hK⟩
      obtain ⟨l0, hl0, ry⟩ := k3.rnd lid rfl
      cases hl0
      obtain ⟨L3, hL3, _, _, _, _, _, _, _, S4, E4⟩ := loop_turn k3.sat hl3 ry (if jump.isNone then .ready else .done) jump
      exact ⟨_, _, run_endRound (P := P) jump hL3, _, _, _, _, G3, rfl, hK, S4, k3.evo.trans E4, .sc ..⟩
    cases e with
    | normal => exact fin none hq
    | ret => exact fin (some .ret) hq
    | exit i => exact fin (some (.exit i)) hq
    | goto l => exact hq.elim
    | panic c => exact hq.elim
    | outgrown => exact hq.elim
  | exit i => exact hq.elim
  | goto l => exact hq.elim
  | ret => exact hq.elim
  | panic c => exact hq.elim
  | outgrown => exact hq.elim
end

/-- A loop over a function, as a step of a walk. -/
def rangeX (C : Ctx) (Q : Exit → AS → Prop) (k : List XI) (g : FuncId) (caps : List AV) (σ1 : AS) (lid : Nat) : Prop :=
  ACall C.P g (.yld lid :: caps) σ1.heap σ1.next (fun _ h' nx' =>
      ∃ r', look lid h' = some (.loop r') ∧ r'.st ≠ .busy ∧
      match r'.pend with
      | none => xt C Q k (rangeOut σ1 lid r' h' nx')
      | some .ret => Q .ret (rangeOut σ1 lid r' h' nx')
      | some (.exit i) => (match popExit i k with
        | some k' => xt C Q k' (rangeOut σ1 lid r' h' nx')
        | none => Q (.exit i) (rangeOut σ1 lid r' h' nx'))
      | _ => False)

theorem xt_range {C : Ctx} {Q : Exit → AS → Prop} {k : List XI} {σ : AS} {f : Operand} {ps : Array Tmp} {as body : Code} {g : FuncId} {caps : List AV} (hr : ∀ r, C.rid = some r → ∃ rr, look r σ.heap = some (.loop rr))
    (hf : σ.ev f = .fn (.func g) caps) (h : rangeX C Q k g caps (rangeIn C σ ps as body).2 (rangeIn C σ ps as body).1) : xt C Q (.code (.rangeFunc f ps as body) :: k) σ := by
  rw [xt]
  refine ⟨hr, g, caps, hf, h.mono fun v h' nx' hq => ?_⟩
  obtain ⟨r', h2, h3, h4⟩ := hq
  refine ⟨r', h2, h3, ?_⟩
  cases hp : r'.pend with
  | none => rw [hp] at h4; exact h4
  | some c =>
    rw [hp] at h4
    cases c <;> try exact h4
    rename_i i
    change (match popExit i k with
      | some k' => xt C Q k' (rangeOut (rangeIn C σ ps as body).2 (rangeIn C σ ps as body).1 r' h' nx')
      | none => Q (.exit i) (rangeOut (rangeIn C σ ps as body).2 (rangeIn C σ ps as body).1 r' h' nx')) at h4
    show (match hp : popExit i k with
      | some k' => xt C Q k' (rangeOut (rangeIn C σ ps as body).2 (rangeIn C σ ps as body).1 r' h' nx')
      | none => Q (.exit i) (rangeOut (rangeIn C σ ps as body).2 (rangeIn C σ ps as body).1 r' h' nx'))
    cases hpe : popExit i k <;> simp only [hpe] at h4 ⊢ <;> exact h4
end Go.Abs
