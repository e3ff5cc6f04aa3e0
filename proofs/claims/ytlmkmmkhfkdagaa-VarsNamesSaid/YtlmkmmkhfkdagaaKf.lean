/- The abstract layer: where ways meet again: a piece of code and what is behind it, each by itself. -/
import Derived.Test.YtlmkmmkhfkdagaaKe
set_option linter.unusedVariables false
set_option linter.unusedSimpArgs false
namespace Go.Abs
open Go.RowKit

/-- How a piece of code is left, where M holds at its end. -/
def joinE (C : Ctx) (Q : Exit → AS → Prop) (k : List XI) (M : AS → Prop) (e : Exit) (σ : AS) : Prop := match e with
  | .normal => M σ
  | .exit i => (match popExit i k with
    | some k' => xt C Q k' σ
    | none => Q (.exit i) σ)
  | e => Q e σ

theorem popExit_app {id : Nat} {k : List XI} : ∀ x : List XI, popExit id (x ++ k) = match popExit id x with
    | some k' => some (k' ++ k)
    | none => popExit id k
  | [] => rfl
  | .inB i :: x => by
    simp only [List.cons_append, popExit]
    by_cases e : i = id
    · simp only [e, if_true]
    · simp only [e, if_false]; exact popExit_app x
  | .code c :: x => by simp only [List.cons_append, popExit]; exact popExit_app x
  | .ops a l :: x => by simp only [List.cons_append, popExit]; exact popExit_app x

theorem exit_app {C : Ctx} {Q : Exit → AS → Prop} {k r : List XI} {i : Nat} {σ : AS}
    (ih : ∀ k', popExit i r = some k' → xt C (joinE C Q k (xt C Q k)) k' σ → xt C Q (k' ++ k) σ)
    (h : match popExit i r with
      | some k' => xt C (joinE C Q k (xt C Q k)) k' σ
      | none => joinE C Q k (xt C Q k) (.exit i) σ) : match popExit i (r ++ k) with
      | some k' => xt C Q k' σ
      | none => Q (.exit i) σ := by
  rw [popExit_app]
  cases hp : popExit i r with
  | none => rw [hp] at h; exact h
  | some k' => rw [hp] at h; exact ih k' hp h

theorem XLoopN_mono1 {body : (Exit → AS → Prop) → AS → Prop} (hb : ∀ Q1 Q2 : Exit → AS → Prop, (∀ e σ, Q1 e σ → Q2 e σ) → ∀ σ, body Q1 σ → body Q2 σ) {K1 K2 : Exit → AS → Prop} (hk : ∀ e σ, e ≠ .normal → K1 e σ → K2 e σ) :
    ∀ n σ, XLoopN body K1 n σ → XLoopN body K2 n σ
  | 0, _, h => h.elim
  | n + 1, σ, h => by
    unfold XLoopN at h ⊢
    refine hb _ _ (fun e σ' hq => ?_) σ h
    cases e with
    | normal => exact XLoopN_mono1 hb hk n σ' hq
    | exit id => exact hk _ _ (by simp) hq
    | goto l => exact hk _ _ (by simp) hq
    | ret => exact hk _ _ (by simp) hq
    | panic c => exact hk _ _ (by simp) hq
    | outgrown => exact hk _ _ (by simp) hq

theorem xt_appN {C : Ctx} {Q : Exit → AS → Prop} {k : List XI} : ∀ (n : Nat) (todo : List XI) (σ : AS), tsz todo ≤ n → xt C (joinE C Q k (xt C Q k)) todo σ → xt C Q (todo ++ k) σ := by
  intro n
  induction n with
  | zero =>
    intro todo σ hn h
    cases todo with
    | nil => rw [xt] at h; exact h
    | cons x r =>
      exfalso
      cases x with
      | code c => have := csz_pos c; simp only [tsz, XI.sz] at hn; omega
      | ops al l' => simp only [tsz, XI.sz] at hn; omega
      | inB i => simp only [tsz, XI.sz] at hn; omega
  | succ n ih =>
    intro todo σ hn h
    cases todo with
    | nil => rw [xt] at h; exact h
    | cons x r =>
      rw [List.cons_append]
      cases x with
      | inB i => rw [xt] at h ⊢; exact ih r σ (by simp only [tsz, XI.sz] at hn; omega) h
      | ops al l' =>
        cases l' with
        | nil => rw [xt] at h ⊢; exact ih r σ (by simp only [tsz, XI.sz, List.length_nil] at hn; omega) h
        | cons o rest =>
          rw [xt] at h ⊢
          have step : ∀ σ, xt C (joinE C Q k (xt C Q k)) (.ops al rest :: r) σ → xt C Q (.ops al rest :: (r ++ k)) σ := fun σ h => ih (.ops al rest :: r) σ (by simp only [tsz, XI.sz, List.length_cons] at hn ⊢; omega) h
          obtain ⟨t, hg, h1, h2⟩ := h
          refine ⟨t, hg, fun e => step _ (h1 e), fun e => ?_⟩
          have h3 := h2 e
          cases hc : callOf o.op with
          | some fa =>
            obtain ⟨f, args⟩ := fa
            simp only [hc] at h3 ⊢
            exact h3.mono fun r h' nx' hx => step _ hx
          | none =>
            simp only [hc] at h3 ⊢
            cases hnc : nilCmp C.P o.op with
            | some nx =>
              obtain ⟨b, x⟩ := nx
              simp only [hnc] at h3 ⊢
              obtain ⟨ls, h4, h5⟩ := h3
              exact ⟨ls, h4, fun b hb => step _ (h5 b hb)⟩
            | none =>
              simp only [hnc] at h3 ⊢
              obtain ⟨rr, h4, h5⟩ := h3
              exact ⟨rr, h4, step _ h5⟩
      | code c =>
        cases c with
        | skip => rw [xt] at h ⊢; exact ih r σ (by simp only [tsz, XI.sz, csz] at hn; omega) h
        | seq x y => rw [xt] at h ⊢; exact ih (.code x :: .code y :: r) σ (by simp only [tsz, XI.sz, csz] at hn ⊢; omega) h
        | cond c x y =>
          rw [xt] at h ⊢
          obtain ⟨t, ht, hx, hy⟩ := h
          exact ⟨t, ht, fun e => ih (.code x :: r) σ (by simp only [tsz, XI.sz, csz] at hn ⊢; omega) (hx e), fun e => ih (.code y :: r) σ (by simp only [tsz, XI.sz, csz] at hn ⊢; omega) (hy e)⟩
        | block id c => rw [xt] at h ⊢; exact ih (.code c :: .inB id :: r) σ (by simp only [tsz, XI.sz, csz] at hn ⊢; omega) h
        | exit id =>
          rw [xt_exit] at h ⊢
          exact exit_app (fun k' hp hx => ih k' σ (by have := popExit_sz hp; simp only [tsz, XI.sz, csz] at hn; omega) hx) h
        | ret => rw [xt] at h ⊢; exact h
        | label l' => rw [xt] at h ⊢; exact ih r σ (by simp only [tsz, XI.sz, csz] at hn; omega) h
        | region id ops draw =>
          cases draw with
          | true =>
            rw [xt] at h ⊢
            obtain ⟨L, hd, hx⟩ := h
            exact ⟨L, hd, XD_mono (fun σ' hk => ih r _ (by simp only [tsz, XI.sz, csz] at hn; omega) hk) _ _ _ hx⟩
          | false => rw [xt] at h ⊢; exact ih (.ops ops ops.toList :: r) σ (by simp only [tsz, XI.sz, csz, Array.length_toList] at hn ⊢; omega) h
        | loop c =>
          rw [xt_loop] at h ⊢
          obtain ⟨m, h⟩ := h
          refine ⟨m, XLoopN_mono1 (body := fun Q' σ' => xt C Q' [.code c] σ') (fun Q3 Q4 h34 σ hx => xt_mono h34 hx) (fun e σ' hne hx => ?_) m σ h⟩
          cases e with
          | exit id => exact exit_app (fun k' hp hx => ih k' σ' (by have := popExit_sz hp; simp only [tsz, XI.sz, csz] at hn; omega) hx) hx
          | normal => exact absurd rfl hne
          | goto l => exact hx
          | ret => exact hx
          | panic c => exact hx
          | outgrown => exact hx
        | goto l' => rw [xt] at h; exact h.elim
        | scope b => rw [xt] at h; exact h.elim
        | refuse s => rw [xt] at h; exact h.elim
        | rangeFunc f ps x y =>
          rw [xt] at h ⊢
          obtain ⟨h1, g, caps, hf, hc⟩ := h
          refine ⟨h1, g, caps, hf, hc.mono fun v h' nx' hx => ?_⟩
          obtain ⟨r', h2, h3, h4⟩ := hx
          refine ⟨r', h2, h3, ?_⟩
          cases hp : r'.pend with
          | none => rw [hp] at h4; exact ih r _ (by simp only [tsz, XI.sz, csz] at hn; omega) h4
          | some c =>
            rw [hp] at h4
            cases c with
            | ret => exact h4
            | exit i =>
              revert h4
              simp only
              intro h4
              have h5 := exit_app (k := k) (r := r) (i := i) (Q := Q) (C := C) (σ := _) (fun k' hp hx => ih k' _ (by have := popExit_sz hp; simp only [tsz, XI.sz, csz] at hn; omega) hx) (by
                split at h4
                · rename_i k' hp; rw [hp]; exact h4
                · rename_i hp; rw [hp]; exact h4)
              split
              · rename_i k' hp; rw [hp] at h5; exact h5
              · rename_i hp; rw [hp] at h5; exact h5
            | _ => exact h4

/-- Code in two parts: M holds where the first one ends. -/
theorem xt_join {C : Ctx} {Q : Exit → AS → Prop} {todo k : List XI} {σ : AS} (M : AS → Prop) (tail : ∀ σ', M σ' → xt C Q k σ') (h : xt C (joinE C Q k M) todo σ) : xt C Q (todo ++ k) σ :=
  xt_appN _ todo σ (Nat.le_refl _) (xt_mono (fun e σ' hq => by
    cases e with
    | normal => exact tail σ' hq
    | _ => exact hq) h)

theorem xt_join1 {C : Ctx} {Q : Exit → AS → Prop} {x : XI} {k : List XI} {σ : AS} (M : AS → Prop) (tail : ∀ σ', M σ' → xt C Q k σ') (h : xt C (joinE C Q k M) [x] σ) : xt C Q (x :: k) σ := xt_join M tail h

/-- A call in a walk that is handed an own array for good. -/
theorem callX_freeze1 {C : Ctx} {T : Tab AV} {h : Heap} {nx : Nat} {m : List Nat} {g : FuncId} {args args' : List AV} {d : Option Tmp} {X : AS → Prop} (k : Nat) (ha : FzL (fun j => j = k) h args args')
    (hc : ACall C.P g args' (del k h) nx (fun r h' nx' => X { (AS.put ⟨T, h, nx, m⟩ d r) with heap := h', next := nx' })) : callX C (.fn (.func g) []) args d ⟨T, h, nx, m⟩ X := by
  have hd : ∀ j o, look j (del k h) = some o → j ≠ k ∧ look j h = some o := fun j o hj => by
    rw [look_del] at hj
    split at hj
    · cases hj
    · rename_i e; exact ⟨e, hj⟩
  exact ACallV.freeze (fun j => j = k) (fun j o hj => (hd j o hj).2) (fun j o hj => (hd j o hj).1) (.fn0 g) ha (.of_fn0 hc)

/-- A value that is told by numbers and texts alone. -/
inductive Plain : AV → Prop
  | sc (v : Value) : Plain (.sc v)
  | agg {cs : List AV} (h : ∀ c ∈ cs, Plain c) : Plain (.agg cs)
  | tup {cs : List AV} (h : ∀ c ∈ cs, Plain c) : Plain (.tup cs)

theorem Rel.plain {v : AV} (hp : Plain v) : ∀ {G : Gh} {w : World} {A : Nat → Prop} {h : Heap} {x : Value}, Rel G w A h v x → ∀ {G' : Gh} {w' : World} {A' : Nat → Prop} {h' : Heap}, Rel G' w' A' h' v x := by
  induction hp with
  | sc v => intro G w A h x r G' w' A' h'; rw [r.sc_inv]; exact .sc ..
  | agg hc ih =>
    intro G w A h x r G' w' A' h'
    obtain ⟨vs, rfl, h1, hr⟩ := r.agg_inv
    exact .agg _ _ _ vs hr.1 h1 fun j c hj => ih c (List.mem_of_getElem? hj) (hr.2 j c hj)
  | tup hc ih =>
    intro G w A h x r G' w' A' h'
    obtain ⟨vs, rfl, hr⟩ := r.tup_inv
    exact .tup _ _ _ vs hr.1 fun j c hj => ih c (List.mem_of_getElem? hj) (hr.2 j c hj)

/-- Own arrays are lent to a call that looks at nothing else and tells a plain value. -/
theorem ACallV.lendP {P : Program} {fv fv' : AV} {args args' : List AV} {h : Heap} {nx : Nat} {K : AV → Heap → Nat → Prop} {r : AV} (p : Nat → Prop) (hp : Plain r) (hf : Fz p h fv fv') (ha : FzL p h args args')
    (hc : ∀ K' : AV → Heap → Nat → Prop, K' r nil' nx → ACallV P fv' args' nil' nx K') (hk : K r h nx) : ACallV P fv args h nx K := by
  intro G w x vs S rf rs
  have h1s : ∀ (j : Nat) (o : AObj), look j (nil' : Heap) = some o → look j h = some o := fun j o hj => by simp [look_nil] at hj
  have S1 : SatH (G.frz h p) w (below nx) nil' := freezeHeap S h1s (fun j o hj => by simp [look_nil] at hj) (fun j o hj => by simp [look_nil] at hj) (fun j o hj => by simp [look_nil] at hj)
  have rf1 := freezeVal S (A' := below nx) (fun j hj _ => hj) h1s hf rf
  have rs1 := ha.rels S (A' := below nx) (fun j hj _ => hj) h1s rs
  refine (hc (fun r' h' nx' => r' = r ∧ h' = nil' ∧ nx' = nx) ⟨rfl, rfl, rfl⟩ (G.frz h p) w x vs S1 rf1 rs1).mono fun e w' hl => ?_
  obtain ⟨v, r', h', nx', G', rfl, ⟨rfl, rfl, rfl⟩, S', E, rv⟩ := hl
  have hblk : ∀ b, b < w.heap.size → w'.heap[b]? = w.heap[b]? := fun b hb => E.frame b hb fun ⟨i, o, a, hi, _⟩ => by simp [look_nil] at hi
  have C : Compat G w G w' (below nx') h (below nx') h :=
    ⟨fun _ h => h, cellZ S fun b hz => hblk b (S.zin b hz), fun _ h => h, fun _ _ => objCompat_refl _ _⟩
  have O : ∀ id o, look id h = some o → RelO G w' (below nx') h id o := fun id o hid => by
    have ro := (S.obj id o hid).2
    exact ro.compat C rfl rfl fun a hloc => hblk _ (ro.lt hloc)
  exact ⟨v, r', h, nx', G, rfl, hk, ⟨fun id o hid => ⟨(S.obj id o hid).1, O id o hid⟩, S.inj, S.zdis, fun b hb => Nat.lt_of_lt_of_le (S.zin b hb) E.size⟩, ⟨E.os, E.tape, E.output, E.size, fun b hb _ => hblk b hb, fun b hb => .inl hb, fun b hb => .inl hb, fun _ h => h, fun v x hr => hr.compat C⟩, rv.plain hp⟩

/-- The same in a walk. -/
theorem callX_lendP {C : Ctx} {T : Tab AV} {h : Heap} {nx : Nat} {m : List Nat} {g : FuncId} {args args' : List AV} {d : Option Tmp} {X : AS → Prop} {r : AV} (p : Nat → Prop) (hp : Plain r) (ha : FzL p h args args')
    (hc : ∀ K' : AV → Heap → Nat → Prop, K' r nil' nx → ACall C.P g args' nil' nx K') (hk : X { (AS.put ⟨T, h, nx, m⟩ d r) with heap := h, next := nx }) : callX C (.fn (.func g) []) args d ⟨T, h, nx, m⟩ X :=
  ACallV.lendP p hp (.fn0 g) ha (fun K' hk' => .of_fn0 (hc K' hk')) hk

/-- The number that an operand leads to is one that is given. -/
theorem ACallV.given {P : Program} {fv : AV} {args : List AV} {h : Heap} {nx : Nat} {K : AV → Heap → Nat → Prop} {k : Nat} (hk : ∃ a ∈ args, ∀ A : Nat → Prop, Refs A a → A k) (c : k < nx → ACallV P fv args h nx K) : ACallV P fv args h nx K := by
  intro G w x vs S rf rs
  obtain ⟨a, ha, hr⟩ := hk
  obtain ⟨j, hj⟩ := List.getElem?_of_mem ha
  exact c (hr _ (rs.2 j a hj).refs) G w x vs S rf rs

/-- At a call: of the frame and the heap only what is said of them. -/
theorem callX_gen {C : Ctx} {f : AV} {as : List AV} {d : Option Tmp} {X : AS → Prop} {T : Tab AV} {H : Heap} {n : Nat} {m : List Nat} (P : Tab AV → Heap → Prop) (hP : P T H) (h : ∀ T H, P T H → callX C f as d ⟨T, H, n, m⟩ X) : callX C f as d ⟨T, H, n, m⟩ X := h T H hP

section
variable {C : Ctx} {Q : Exit → AS → Prop} {k : List XI} {M : AS → Prop} {σ : AS}
theorem joinE_normal : joinE C Q k M .normal σ = M σ := rfl
theorem joinE_ret : joinE C Q k M .ret σ = Q .ret σ := rfl
end
end Go.Abs
