/- The abstract layer, part V: loops by an invariant, calls by a contract, lists found through. -/
import Derived.Test.YtlmkmmkhfkdagaaAbsU
set_option linter.unusedVariables false
set_option linter.unusedSimpArgs false
namespace Go.Abs
open Go.RowKit

/-! ### What asks less is shown the sooner -/

theorem XLoopN_mono {body : (Exit → AS → Prop) → AS → Prop} (hb : ∀ Q1 Q2 : Exit → AS → Prop, (∀ e σ, Q1 e σ → Q2 e σ) → ∀ σ, body Q1 σ → body Q2 σ) {K1 K2 : Exit → AS → Prop} (hk : ∀ e σ, K1 e σ → K2 e σ) :
    ∀ n σ, XLoopN body K1 n σ → XLoopN body K2 n σ
  | 0, _, h => h.elim
  | n + 1, σ, h => by
    unfold XLoopN at h ⊢
    refine hb _ _ (fun e σ' hq => ?_) σ h
    cases e with
    | normal => exact XLoopN_mono hb hk n σ' hq
    | exit id => exact hk _ _ hq
    | goto l => exact hk _ _ hq
    | ret => exact hk _ _ hq
    | panic c => exact hk _ _ hq
    | outgrown => exact hk _ _ hq

theorem XLoopN_more {body : (Exit → AS → Prop) → AS → Prop} (hb : ∀ Q1 Q2 : Exit → AS → Prop, (∀ e σ, Q1 e σ → Q2 e σ) → ∀ σ, body Q1 σ → body Q2 σ) {K : Exit → AS → Prop} :
    ∀ n n' σ, n ≤ n' → XLoopN body K n σ → XLoopN body K n' σ
  | 0, _, _, _, h => h.elim
  | n + 1, 0, _, hn, _ => by omega
  | n + 1, n' + 1, σ, hn, h => by
    unfold XLoopN at h ⊢
    refine hb _ _ (fun e σ' hq => ?_) σ h
    cases e with
    | normal => exact XLoopN_more hb n n' σ' (by omega) hq
    | exit id => exact hq
    | goto l => exact hq
    | ret => exact hq
    | panic c => exact hq
    | outgrown => exact hq

theorem XD_mono {C : Ctx} {all : Array Oper} {L : Loc} {base : Nat} {K1 K2 : AS → Prop} (hk : ∀ σ, K1 σ → K2 σ) : ∀ (l : List Oper) (i : Nat) (σ : AS), XD C all L base i l σ K1 → XD C all L base i l σ K2
  | [], i, σ, h => hk σ h
  | o :: rest, i, σ, h => by
    unfold XD at h ⊢
    obtain ⟨hloc, t, hg, h1, h2⟩ := h
    refine ⟨hloc, t, hg, fun e => XD_mono hk rest _ _ (h1 e), fun e => ?_⟩
    have h3 := h2 e
    cases hc : callOf o.op with
    | none =>
      simp only [hc] at h3 ⊢
      obtain ⟨h4, r, h5, h6⟩ := h3
      exact ⟨h4, r, h5, XD_mono hk rest _ _ h6⟩
    | some fa =>
      obtain ⟨f, args⟩ := fa
      simp only [hc] at h3 ⊢
      obtain ⟨r, h4, h6⟩ := h3
      exact ⟨r, h4, XD_mono hk rest _ _ h6⟩

theorem xt_monoN {C : Ctx} : ∀ (n : Nat) (todo : List XI) (Q1 Q2 : Exit → AS → Prop) (σ : AS), tsz todo ≤ n → (∀ e σ, Q1 e σ → Q2 e σ) → xt C Q1 todo σ → xt C Q2 todo σ := by
  intro n
  induction n with
  | zero =>
    intro todo Q1 Q2 σ hn hq h
    cases todo with
    | nil => rw [xt] at h ⊢; exact hq _ _ h
    | cons x r =>
      exfalso
      cases x with
      | code c => have := csz_pos c; simp only [tsz, XI.sz] at hn; omega
      | ops al l' => simp only [tsz, XI.sz] at hn; omega
      | inB i => simp only [tsz, XI.sz] at hn; omega
  | succ n ih =>
    intro todo Q1 Q2 σ hn hq h
    cases todo with
    | nil => rw [xt] at h ⊢; exact hq _ _ h
    | cons x r =>
      cases x with
      | inB i => rw [xt] at h ⊢; exact ih r Q1 Q2 σ (by simp only [tsz, XI.sz] at hn; omega) hq h
      | ops al l' =>
        cases l' with
        | nil => rw [xt] at h ⊢; exact ih r Q1 Q2 σ (by simp only [tsz, XI.sz, List.length_nil] at hn; omega) hq h
        | cons o rest =>
          rw [xt] at h ⊢
          have step : ∀ σ, xt C Q1 (.ops al rest :: r) σ → xt C Q2 (.ops al rest :: r) σ := fun σ h => ih _ Q1 Q2 σ (by simp only [tsz, XI.sz, List.length_cons] at hn ⊢; omega) hq h
          obtain ⟨t, hg, h1, h2⟩ := h
          refine ⟨t, hg, fun e => step _ (h1 e), fun e => ?_⟩
          have h3 := h2 e
          cases hc : callOf o.op with
          | some fa =>
            obtain ⟨f, args⟩ := fa
            simp only [hc] at h3 ⊢
            exact h3.mono fun r h' nx' hx => step _ hx
          | none =>
            simp only [hc] at h3 ⊢
            cases hnc : nilCmp C.P o.op with
            | some nx =>
              obtain ⟨b, x⟩ := nx
              simp only [hnc] at h3 ⊢
              obtain ⟨ls, h4, h5⟩ := h3
              exact ⟨ls, h4, fun b hb => step _ (h5 b hb)⟩
            | none =>
              simp only [hnc] at h3 ⊢
              obtain ⟨rr, h4, h5⟩ := h3
              exact ⟨rr, h4, step _ h5⟩
      | code c =>
        cases c with
        | skip => rw [xt] at h ⊢; exact ih r Q1 Q2 σ (by simp only [tsz, XI.sz, csz] at hn; omega) hq h
        | seq x y => rw [xt] at h ⊢; exact ih _ Q1 Q2 σ (by simp only [tsz, XI.sz, csz] at hn ⊢; omega) hq h
        | cond c x y =>
          rw [xt] at h ⊢
          obtain ⟨t, ht, hx, hy⟩ := h
          exact ⟨t, ht, fun e => ih _ Q1 Q2 σ (by simp only [tsz, XI.sz, csz] at hn ⊢; omega) hq (hx e), fun e => ih _ Q1 Q2 σ (by simp only [tsz, XI.sz, csz] at hn ⊢; omega) hq (hy e)⟩
        | block id c => rw [xt] at h ⊢; exact ih _ Q1 Q2 σ (by simp only [tsz, XI.sz, csz] at hn ⊢; omega) hq h
        | exit id =>
          rw [xt] at h ⊢
          split at h
          · rename_i k' hp
            have hsz := popExit_sz hp
            have := ih k' Q1 Q2 σ (by simp only [tsz, XI.sz, csz] at hn; omega) hq h
            exact this
          · rename_i hp
            exact hq _ _ h
        | ret => rw [xt] at h ⊢; exact hq _ _ h
        | label l' => rw [xt] at h ⊢; exact ih r Q1 Q2 σ (by simp only [tsz, XI.sz, csz] at hn; omega) hq h
        | region id ops draw =>
          cases draw with
          | true =>
            rw [xt] at h ⊢
            obtain ⟨L, hd, hx⟩ := h
            exact ⟨L, hd, XD_mono (fun σ' hk => ih r Q1 Q2 _ (by simp only [tsz, XI.sz, csz] at hn; omega) hq hk) _ _ _ hx⟩
          | false => rw [xt] at h ⊢; exact ih _ Q1 Q2 σ (by simp only [tsz, XI.sz, csz, Array.length_toList] at hn ⊢; omega) hq h
        | loop c =>
          rw [xt] at h ⊢
          obtain ⟨m, h⟩ := h
          refine ⟨m, XLoopN_mono (fun Q3 Q4 h34 σ hx => ih [.code c] Q3 Q4 σ (by simp only [tsz, XI.sz, csz] at hn ⊢; omega) h34 hx) (fun e σ' hx => ?_) m σ h⟩
          cases e with
          | exit id =>
            simp only at hx ⊢
            split at hx
            · rename_i k' hp
              have hsz := popExit_sz hp
              have := ih k' Q1 Q2 σ' (by simp only [tsz, XI.sz, csz] at hn; omega) hq hx
              exact this
            · rename_i hp
              exact hq _ _ hx
          | normal => exact hq _ _ hx
          | goto l => exact hq _ _ hx
          | ret => exact hq _ _ hx
          | panic c => exact hq _ _ hx
          | outgrown => exact hq _ _ hx
        | goto l' => rw [xt] at h; exact h.elim
        | scope b => rw [xt] at h; exact h.elim
        | refuse s => rw [xt] at h; exact h.elim
        | rangeFunc f ps x y =>
          rw [xt] at h ⊢
          obtain ⟨h1, g, caps, hf, hc⟩ := h
          refine ⟨h1, g, caps, hf, hc.mono fun v h' nx' hx => ?_⟩
          obtain ⟨r', h2, h3, h4⟩ := hx
          refine ⟨r', h2, h3, ?_⟩
          cases hp : r'.pend with
          | none => rw [hp] at h4; exact ih r Q1 Q2 _ (by simp only [tsz, XI.sz, csz] at hn; omega) hq h4
          | some c =>
            rw [hp] at h4
            cases c with
            | ret => exact hq _ _ h4
            | exit i =>
              revert h4
              simp only
              intro h4
              split at h4
              · rename_i k' hp
                have hsz := popExit_sz hp
                have := ih k' Q1 Q2 _ (by simp only [tsz, XI.sz, csz] at hn; omega) hq h4
                exact this
              · rename_i hp
                exact hq _ _ h4
            | _ => exact h4

theorem xt_mono {C : Ctx} {todo : List XI} {Q1 Q2 : Exit → AS → Prop} {σ : AS} (hq : ∀ e σ, Q1 e σ → Q2 e σ) (h : xt C Q1 todo σ) : xt C Q2 todo σ := xt_monoN _ todo Q1 Q2 σ (Nat.le_refl _) hq h

/-- How a loop's round may end. -/
def loopQ (C : Ctx) (Q : Exit → AS → Prop) (k : List XI) (I : Nat → AS → Prop) (m : Nat) (e : Exit) (σ : AS) : Prop := match e with
  | .normal => ∃ m', m' < m ∧ I m' σ
  | .exit id => (match popExit id k with
    | some k' => xt C Q k' σ
    | none => Q (.exit id) σ)
  | e => Q e σ

section
variable {C : Ctx} {Q : Exit → AS → Prop} {k : List XI} {σ : AS} {I : Nat → AS → Prop} {m : Nat}
theorem loopQ_normal : loopQ C Q k I m .normal σ = ∃ m', m' < m ∧ I m' σ := rfl
theorem loopQ_exit (id : Nat) : loopQ C Q k I m (.exit id) σ = (match popExit id k with
    | some k' => xt C Q k' σ
    | none => Q (.exit id) σ) := rfl
theorem loopQ_ret : loopQ C Q k I m .ret σ = Q .ret σ := rfl

theorem loopX_ind {c : Code} (I : Nat → AS → Prop) (m : Nat) (h0 : I m σ) (step : ∀ m σ', I m σ' → xt C (loopQ C Q k I m) [.code c] σ') : loopX c C Q k σ := by
  have : ∀ m σ, I m σ → XLoopN (fun Q' σ' => xt C Q' [.code c] σ') (fun e σ' => match e with
      | .exit id => (match popExit id k with
        | some k' => xt C Q k' σ'
        | none => Q (.exit id) σ')
      | e => Q e σ') (m + 1) σ := by
    intro m
    induction m using Nat.strongRecOn with
    | _ m ih =>
      intro σ hI
      have h1 := step m σ hI
      unfold XLoopN
      have mono : ∀ (Q1 Q2 : Exit → AS → Prop), (∀ e σ, Q1 e σ → Q2 e σ) → ∀ σ, xt C Q1 [.code c] σ → xt C Q2 [.code c] σ := fun Q1 Q2 hq σ h => xt_mono hq h
      refine mono _ _ (fun e σ' hq => ?_) σ h1
      cases e with
      | normal =>
        obtain ⟨m', hm, hI'⟩ := hq
        exact XLoopN_more mono (m' + 1) m σ' (by omega) (ih m' hm σ' hI')
      | exit id => exact hq
      | goto l => exact hq
      | ret => exact hq
      | panic c => exact hq
      | outgrown => exact hq
  exact ⟨m + 1, this m σ h0⟩

theorem callX_fn {g : FuncId} {caps as : List AV} {d : Option Tmp} {X : AS → Prop} (h : ACall C.P g (as ++ caps) σ.heap σ.next (fun r h' nx' => X { (σ.put d r) with heap := h', next := nx' })) : callX C (.fn (.func g) caps) as d σ X := ACallV.of_fn h
theorem callX_v {f : AV} {as : List AV} {d : Option Tmp} {X : AS → Prop} (h : ACallV C.P f as σ.heap σ.next (fun r h' nx' => X { (σ.put d r) with heap := h', next := nx' })) : callX C f as d σ X := h
end

/-! ### Operations of a region whose order is open -/

def resetN (n : Nat) (X : AS → Prop) (σ : AS) : Prop := X { σ with next := n }
theorem resetN_mk (n : Nat) (X : AS → Prop) (T : Tab AV) (h : Heap) (m : Nat) (k : List Nat) : resetN n X ⟨T, h, m, k⟩ = X ⟨T, h, n, k⟩ := rfl

theorem doD_op {C : Ctx} {al : Array Oper} {id : Nat} {d : Option Tmp} {op : Op} {ty : TypeId} {pos : String} {aft : Array Edge} {g : Option (Nat × Bool)} {T : Tab AV} {h : Heap} {n : Nat} {m : List Nat} {X : AS → Prop} (h1 : callOf op = none) (h2 : nilCmp C.P op = none) :
    doD false C al id ⟨d, op, ty, pos, aft, g⟩ ⟨T, h, n, m⟩ X = doOp C al ⟨d, op, ty, pos, aft, g⟩ ⟨T, h, id, m⟩ (resetN n X) := by
  unfold doD doOp resetN
  simp only [h1, h2, true_and]
  cases d <;> cases g <;> rfl

theorem doD_move {C : Ctx} {al : Array Oper} {id : Nat} {d : Option Tmp} {ty : TypeId} {pos : String} {aft : Array Edge} {g : Option (Nat × Bool)} {T : Tab AV} {h : Heap} {n : Nat} {m : List Nat} {X : AS → Prop} (x : Operand) : doD false C al id ⟨d, .move x, ty, pos, aft, g⟩ ⟨T, h, n, m⟩ X = doOp C al ⟨d, .move x, ty, pos, aft, g⟩ ⟨T, h, id, m⟩ (resetN n X) := doD_op rfl rfl
theorem doD_assign {C : Ctx} {al : Array Oper} {id : Nat} {d : Option Tmp} {ty : TypeId} {pos : String} {aft : Array Edge} {g : Option (Nat × Bool)} {T : Tab AV} {h : Heap} {n : Nat} {m : List Nat} {X : AS → Prop} (x : Operand) : doD false C al id ⟨d, .assign x, ty, pos, aft, g⟩ ⟨T, h, n, m⟩ X = doOp C al ⟨d, .assign x, ty, pos, aft, g⟩ ⟨T, h, id, m⟩ (resetN n X) := doD_op rfl rfl
theorem doD_pick {C : Ctx} {al : Array Oper} {id : Nat} {d : Option Tmp} {ty : TypeId} {pos : String} {aft : Array Edge} {g : Option (Nat × Bool)} {T : Tab AV} {h : Heap} {n : Nat} {m : List Nat} {X : AS → Prop} (c a b : Operand) : doD false C al id ⟨d, .pick c a b, ty, pos, aft, g⟩ ⟨T, h, n, m⟩ X = doOp C al ⟨d, .pick c a b, ty, pos, aft, g⟩ ⟨T, h, id, m⟩ (resetN n X) := doD_op rfl rfl
theorem doD_alloc {C : Ctx} {al : Array Oper} {id : Nat} {d : Option Tmp} {ty : TypeId} {pos : String} {aft : Array Edge} {g : Option (Nat × Bool)} {T : Tab AV} {h : Heap} {n : Nat} {m : List Nat} {X : AS → Prop} (t : TypeId) : doD false C al id ⟨d, .alloc t, ty, pos, aft, g⟩ ⟨T, h, n, m⟩ X = doOp C al ⟨d, .alloc t, ty, pos, aft, g⟩ ⟨T, h, id, m⟩ (resetN n X) := doD_op rfl rfl
theorem doD_box {C : Ctx} {al : Array Oper} {id : Nat} {d : Option Tmp} {ty : TypeId} {pos : String} {aft : Array Edge} {g : Option (Nat × Bool)} {T : Tab AV} {h : Heap} {n : Nat} {m : List Nat} {X : AS → Prop} (t : TypeId) (x : Operand) : doD false C al id ⟨d, .box t x, ty, pos, aft, g⟩ ⟨T, h, n, m⟩ X = doOp C al ⟨d, .box t x, ty, pos, aft, g⟩ ⟨T, h, id, m⟩ (resetN n X) := doD_op rfl rfl
theorem doD_build {C : Ctx} {al : Array Oper} {id : Nat} {d : Option Tmp} {ty : TypeId} {pos : String} {aft : Array Edge} {g : Option (Nat × Bool)} {T : Tab AV} {h : Heap} {n : Nat} {m : List Nat} {X : AS → Prop} (t : TypeId) (ps : Array (Nat × Operand)) : doD false C al id ⟨d, .build t ps, ty, pos, aft, g⟩ ⟨T, h, n, m⟩ X = doOp C al ⟨d, .build t ps, ty, pos, aft, g⟩ ⟨T, h, id, m⟩ (resetN n X) := doD_op rfl rfl
theorem doD_buildSlice {C : Ctx} {al : Array Oper} {id : Nat} {d : Option Tmp} {ty : TypeId} {pos : String} {aft : Array Edge} {g : Option (Nat × Bool)} {T : Tab AV} {h : Heap} {n : Nat} {m : List Nat} {X : AS → Prop} (t : TypeId) (k : Nat) (ps : Array (Nat × Operand)) : doD false C al id ⟨d, .buildSlice t k ps, ty, pos, aft, g⟩ ⟨T, h, n, m⟩ X = doOp C al ⟨d, .buildSlice t k ps, ty, pos, aft, g⟩ ⟨T, h, id, m⟩ (resetN n X) := doD_op rfl rfl
theorem doD_load {C : Ctx} {al : Array Oper} {id : Nat} {d : Option Tmp} {ty : TypeId} {pos : String} {aft : Array Edge} {g : Option (Nat × Bool)} {T : Tab AV} {h : Heap} {n : Nat} {m : List Nat} {X : AS → Prop} (t : TypeId) (a : Operand) : doD false C al id ⟨d, .load t a, ty, pos, aft, g⟩ ⟨T, h, n, m⟩ X = doOp C al ⟨d, .load t a, ty, pos, aft, g⟩ ⟨T, h, id, m⟩ (resetN n X) := doD_op rfl rfl
theorem doD_store {C : Ctx} {al : Array Oper} {id : Nat} {d : Option Tmp} {ty : TypeId} {pos : String} {aft : Array Edge} {g : Option (Nat × Bool)} {T : Tab AV} {h : Heap} {n : Nat} {m : List Nat} {X : AS → Prop} (t : TypeId) (a x : Operand) : doD false C al id ⟨d, .store t a x, ty, pos, aft, g⟩ ⟨T, h, n, m⟩ X = doOp C al ⟨d, .store t a x, ty, pos, aft, g⟩ ⟨T, h, id, m⟩ (resetN n X) := doD_op rfl rfl
theorem doD_bin_tmp {C : Ctx} {al : Array Oper} {id : Nat} {d : Option Tmp} {ty : TypeId} {pos : String} {aft : Array Edge} {g : Option (Nat × Bool)} {T : Tab AV} {h : Heap} {n : Nat} {m : List Nat} {X : AS → Prop} (o : BinOp) (t : TypeId) (x : Operand) (y : Tmp) (yt : TypeId) : doD false C al id ⟨d, .binOp o t x (.tmp y) yt, ty, pos, aft, g⟩ ⟨T, h, n, m⟩ X = doOp C al ⟨d, .binOp o t x (.tmp y) yt, ty, pos, aft, g⟩ ⟨T, h, id, m⟩ (resetN n X) := doD_op rfl rfl
theorem doD_bin_int {C : Ctx} {al : Array Oper} {id : Nat} {d : Option Tmp} {ty : TypeId} {pos : String} {aft : Array Edge} {g : Option (Nat × Bool)} {T : Tab AV} {h : Heap} {n : Nat} {m : List Nat} {X : AS → Prop} (o : BinOp) (t : TypeId) (x : Operand) (k : IntKind) (i : Int) (yt : TypeId) : doD false C al id ⟨d, .binOp o t x (.const (.int k i)) yt, ty, pos, aft, g⟩ ⟨T, h, n, m⟩ X = doOp C al ⟨d, .binOp o t x (.const (.int k i)) yt, ty, pos, aft, g⟩ ⟨T, h, id, m⟩ (resetN n X) := doD_op rfl rfl
theorem doD_bin_str {C : Ctx} {al : Array Oper} {id : Nat} {d : Option Tmp} {ty : TypeId} {pos : String} {aft : Array Edge} {g : Option (Nat × Bool)} {T : Tab AV} {h : Heap} {n : Nat} {m : List Nat} {X : AS → Prop} (o : BinOp) (t : TypeId) (x : Operand) (b : ByteArray) (yt : TypeId) : doD false C al id ⟨d, .binOp o t x (.const (.string b)) yt, ty, pos, aft, g⟩ ⟨T, h, n, m⟩ X = doOp C al ⟨d, .binOp o t x (.const (.string b)) yt, ty, pos, aft, g⟩ ⟨T, h, id, m⟩ (resetN n X) := doD_op rfl rfl
theorem doD_bin_bool {C : Ctx} {al : Array Oper} {id : Nat} {d : Option Tmp} {ty : TypeId} {pos : String} {aft : Array Edge} {g : Option (Nat × Bool)} {T : Tab AV} {h : Heap} {n : Nat} {m : List Nat} {X : AS → Prop} (o : BinOp) (t : TypeId) (x : Operand) (b : Bool) (yt : TypeId) : doD false C al id ⟨d, .binOp o t x (.const (.bool b)) yt, ty, pos, aft, g⟩ ⟨T, h, n, m⟩ X = doOp C al ⟨d, .binOp o t x (.const (.bool b)) yt, ty, pos, aft, g⟩ ⟨T, h, id, m⟩ (resetN n X) := doD_op rfl rfl
theorem doD_unOp {C : Ctx} {al : Array Oper} {id : Nat} {d : Option Tmp} {ty : TypeId} {pos : String} {aft : Array Edge} {g : Option (Nat × Bool)} {T : Tab AV} {h : Heap} {n : Nat} {m : List Nat} {X : AS → Prop} (o : UnOp) (t : TypeId) (x : Operand) : doD false C al id ⟨d, .unOp o t x, ty, pos, aft, g⟩ ⟨T, h, n, m⟩ X = doOp C al ⟨d, .unOp o t x, ty, pos, aft, g⟩ ⟨T, h, id, m⟩ (resetN n X) := doD_op rfl rfl
theorem doD_convert {C : Ctx} {al : Array Oper} {id : Nat} {d : Option Tmp} {ty : TypeId} {pos : String} {aft : Array Edge} {g : Option (Nat × Bool)} {T : Tab AV} {h : Heap} {n : Nat} {m : List Nat} {X : AS → Prop} (s t : TypeId) (x : Operand) : doD false C al id ⟨d, .convert s t x, ty, pos, aft, g⟩ ⟨T, h, n, m⟩ X = doOp C al ⟨d, .convert s t x, ty, pos, aft, g⟩ ⟨T, h, id, m⟩ (resetN n X) := doD_op rfl rfl
theorem doD_iface {C : Ctx} {al : Array Oper} {id : Nat} {d : Option Tmp} {ty : TypeId} {pos : String} {aft : Array Edge} {g : Option (Nat × Bool)} {T : Tab AV} {h : Heap} {n : Nat} {m : List Nat} {X : AS → Prop} (t : TypeId) (x : Operand) : doD false C al id ⟨d, .makeInterface t x, ty, pos, aft, g⟩ ⟨T, h, n, m⟩ X = doOp C al ⟨d, .makeInterface t x, ty, pos, aft, g⟩ ⟨T, h, id, m⟩ (resetN n X) := doD_op rfl rfl
theorem doD_makeFunc {C : Ctx} {al : Array Oper} {id : Nat} {d : Option Tmp} {ty : TypeId} {pos : String} {aft : Array Edge} {g : Option (Nat × Bool)} {T : Tab AV} {h : Heap} {n : Nat} {m : List Nat} {X : AS → Prop} (f : Fn) (fs cs : Array Operand) : doD false C al id ⟨d, .makeFunc f fs cs, ty, pos, aft, g⟩ ⟨T, h, n, m⟩ X = doOp C al ⟨d, .makeFunc f fs cs, ty, pos, aft, g⟩ ⟨T, h, id, m⟩ (resetN n X) := doD_op rfl rfl
theorem doD_slice {C : Ctx} {al : Array Oper} {id : Nat} {d : Option Tmp} {ty : TypeId} {pos : String} {aft : Array Edge} {g : Option (Nat × Bool)} {T : Tab AV} {h : Heap} {n : Nat} {m : List Nat} {X : AS → Prop} (t : TypeId) (x : Operand) (lo hi mx : Option Operand) : doD false C al id ⟨d, .slice t x lo hi mx, ty, pos, aft, g⟩ ⟨T, h, n, m⟩ X = doOp C al ⟨d, .slice t x lo hi mx, ty, pos, aft, g⟩ ⟨T, h, id, m⟩ (resetN n X) := doD_op rfl rfl
theorem doD_fieldAddr {C : Ctx} {al : Array Oper} {id : Nat} {d : Option Tmp} {ty : TypeId} {pos : String} {aft : Array Edge} {g : Option (Nat × Bool)} {T : Tab AV} {h : Heap} {n : Nat} {m : List Nat} {X : AS → Prop} (t : TypeId) (x : Operand) (f : Nat) : doD false C al id ⟨d, .fieldAddr t x f, ty, pos, aft, g⟩ ⟨T, h, n, m⟩ X = doOp C al ⟨d, .fieldAddr t x f, ty, pos, aft, g⟩ ⟨T, h, id, m⟩ (resetN n X) := doD_op rfl rfl
theorem doD_field {C : Ctx} {al : Array Oper} {id : Nat} {d : Option Tmp} {ty : TypeId} {pos : String} {aft : Array Edge} {g : Option (Nat × Bool)} {T : Tab AV} {h : Heap} {n : Nat} {m : List Nat} {X : AS → Prop} (t : TypeId) (x : Operand) (f : Nat) : doD false C al id ⟨d, .field t x f, ty, pos, aft, g⟩ ⟨T, h, n, m⟩ X = doOp C al ⟨d, .field t x f, ty, pos, aft, g⟩ ⟨T, h, id, m⟩ (resetN n X) := doD_op rfl rfl
theorem doD_indexAddr {C : Ctx} {al : Array Oper} {id : Nat} {d : Option Tmp} {ty : TypeId} {pos : String} {aft : Array Edge} {g : Option (Nat × Bool)} {T : Tab AV} {h : Heap} {n : Nat} {m : List Nat} {X : AS → Prop} (t : TypeId) (x i : Operand) : doD false C al id ⟨d, .indexAddr t x i, ty, pos, aft, g⟩ ⟨T, h, n, m⟩ X = doOp C al ⟨d, .indexAddr t x i, ty, pos, aft, g⟩ ⟨T, h, id, m⟩ (resetN n X) := doD_op rfl rfl
theorem doD_index {C : Ctx} {al : Array Oper} {id : Nat} {d : Option Tmp} {ty : TypeId} {pos : String} {aft : Array Edge} {g : Option (Nat × Bool)} {T : Tab AV} {h : Heap} {n : Nat} {m : List Nat} {X : AS → Prop} (t : TypeId) (x i : Operand) : doD false C al id ⟨d, .index t x i, ty, pos, aft, g⟩ ⟨T, h, n, m⟩ X = doOp C al ⟨d, .index t x i, ty, pos, aft, g⟩ ⟨T, h, id, m⟩ (resetN n X) := doD_op rfl rfl
theorem doD_lookup {C : Ctx} {al : Array Oper} {id : Nat} {d : Option Tmp} {ty : TypeId} {pos : String} {aft : Array Edge} {g : Option (Nat × Bool)} {T : Tab AV} {h : Heap} {n : Nat} {m : List Nat} {X : AS → Prop} (t : TypeId) (x i : Operand) (ok : Bool) : doD false C al id ⟨d, .lookup t x i ok, ty, pos, aft, g⟩ ⟨T, h, n, m⟩ X = doOp C al ⟨d, .lookup t x i ok, ty, pos, aft, g⟩ ⟨T, h, id, m⟩ (resetN n X) := doD_op rfl rfl
theorem doD_mapUpdate {C : Ctx} {al : Array Oper} {id : Nat} {d : Option Tmp} {ty : TypeId} {pos : String} {aft : Array Edge} {g : Option (Nat × Bool)} {T : Tab AV} {h : Heap} {n : Nat} {m : List Nat} {X : AS → Prop} (t : TypeId) (x i v : Operand) : doD false C al id ⟨d, .mapUpdate t x i v, ty, pos, aft, g⟩ ⟨T, h, n, m⟩ X = doOp C al ⟨d, .mapUpdate t x i v, ty, pos, aft, g⟩ ⟨T, h, id, m⟩ (resetN n X) := doD_op rfl rfl
theorem doD_extract {C : Ctx} {al : Array Oper} {id : Nat} {d : Option Tmp} {ty : TypeId} {pos : String} {aft : Array Edge} {g : Option (Nat × Bool)} {T : Tab AV} {h : Heap} {n : Nat} {m : List Nat} {X : AS → Prop} (x : Operand) (i : Nat) : doD false C al id ⟨d, .extract x i, ty, pos, aft, g⟩ ⟨T, h, n, m⟩ X = doOp C al ⟨d, .extract x i, ty, pos, aft, g⟩ ⟨T, h, id, m⟩ (resetN n X) := doD_op rfl rfl
theorem doD_frz {C : Ctx} {al : Array Oper} {id : Nat} {d : Option Tmp} {ty : TypeId} {pos : String} {aft : Array Edge} {T : Tab AV} {h : Heap} {n : Nat} {m : List Nat} {X : AS → Prop} (t : TypeId) (k : Nat) (ps : Array (Nat × Operand)) :
    doD true C al id ⟨d, .buildSlice t k ps, ty, pos, aft, none⟩ ⟨T, h, n, m⟩ X = obV (frzA C.P t k (ps.toList.map fun p => (p.1, (AS.mk T h n m).ev p.2))) d ⟨T, h, n, m⟩ X := by
  unfold doD obV ob opD
  simp only [callOf, nilCmp, true_and, Bool.true_eq_false, exists_eq_left, false_implies, true_implies]
  cases frzA C.P t k (ps.toList.map fun p => (p.1, (AS.mk T h n m).ev p.2)) with
  | none => simp
  | some v => cases d <;> simp <;> rfl
theorem doD_builtin {C : Ctx} {al : Array Oper} {id : Nat} {d : Option Tmp} {ty : TypeId} {pos : String} {aft : Array Edge} {g : Option (Nat × Bool)} {T : Tab AV} {h : Heap} {n : Nat} {m : List Nat} {X : AS → Prop} (b : Builtin) (as : Array Operand) (tys : Array TypeId) : doD false C al id ⟨d, .call { callee := .builtin b, args := as, argTypes := tys }, ty, pos, aft, g⟩ ⟨T, h, n, m⟩ X = doOp C al ⟨d, .call { callee := .builtin b, args := as, argTypes := tys }, ty, pos, aft, g⟩ ⟨T, h, id, m⟩ (resetN n X) := doD_op rfl rfl

/-- What is left of such a region; what is behind it. -/
def xdK (C : Ctx) (al : Array Oper) (L : Loc) (b i : Nat) (l : List Oper) (K : AS → Prop) (σ : AS) : Prop := XD C al L b i l σ K
def drawK (C : Ctx) (Q : Exit → AS → Prop) (k : List XI) (n : Nat) (σ : AS) : Prop := xt C Q k { σ with next := n }
theorem locOk_0 (cl : Nat → Nat) (o : Oper) (σ : AS) : locOk cl 0 o σ = True := by simp [locOk]
theorem xdK_cons0 {C : Ctx} {al : Array Oper} {b i : Nat} {o : Oper} {l : List Oper} {K : AS → Prop} (T : Tab AV) (h : Heap) (n : Nat) (m : List Nat) : xdK C al L0 b i (o :: l) K ⟨T, h, n, m⟩ = doD false C al (b + i) o ⟨T, h, n, m⟩ (xdK C al L0 b (i + 1) l K) := by
  have : xdK C al L0 b i (o :: l) K ⟨T, h, n, m⟩ = (locOk L0.cl (L0.loc.getD i 0) o ⟨T, h, n, m⟩ ∧ doD (L0.frz.getD i false) C al (b + i) o ⟨T, h, n, m⟩ (xdK C al L0 b (i + 1) l K)) := rfl
  rw [this]
  simp [L0, locOk_0]
theorem xdK_consL {C : Ctx} {al : Array Oper} {cl : Nat → Nat} {ls : List Nat} {fs : List Bool} {b i : Nat} {o : Oper} {l : List Oper} {K : AS → Prop} (T : Tab AV) (h : Heap) (n : Nat) (m : List Nat) : xdK C al ⟨cl, ls, fs⟩ b i (o :: l) K ⟨T, h, n, m⟩ = (locOk cl (ls.getD i 0) o ⟨T, h, n, m⟩ ∧ doD (fs.getD i false) C al (b + i) o ⟨T, h, n, m⟩ (xdK C al ⟨cl, ls, fs⟩ b (i + 1) l K)) := rfl
theorem xdK_nil {C : Ctx} {al : Array Oper} {L : Loc} {b i : Nat} {K : AS → Prop} (T : Tab AV) (h : Heap) (n : Nat) (m : List Nat) : xdK C al L b i [] K ⟨T, h, n, m⟩ = K ⟨T, h, n, m⟩ := rfl
theorem drawK_mk {C : Ctx} {Q : Exit → AS → Prop} {k : List XI} {n0 : Nat} (T : Tab AV) (h : Heap) (n : Nat) (m : List Nat) : drawK C Q k n0 ⟨T, h, n, m⟩ = xt C Q k ⟨T, h, n0, m⟩ := rfl
/-- A region whose order is open: the walk stops here. -/
def drawX (C : Ctx) (Q : Exit → AS → Prop) (k : List XI) (ops : Array Oper) (σ : AS) : Prop := ∃ L : Loc, drawOk L.loc ops = true ∧ xdK C ops L σ.next 0 ops.toList (drawK C Q k (σ.next + ops.size)) σ
theorem xt_drawK {C : Ctx} {Q : Exit → AS → Prop} {k : List XI} (i : Nat) (ops : Array Oper) (T : Tab AV) (h : Heap) (n : Nat) (m : List Nat) : xt C Q (.code (.region i ops true) :: k) ⟨T, h, n, m⟩ = drawX C Q k ops ⟨T, h, n, m⟩ := by rw [xt_draw]; rfl
theorem draw0 {C : Ctx} {Q : Exit → AS → Prop} {k : List XI} {ops : Array Oper} {T : Tab AV} {h : Heap} {n : Nat} {m : List Nat} (hd : drawOk [] ops = true) (hx : xdK C ops L0 n 0 ops.toList (drawK C Q k (n + ops.size)) ⟨T, h, n, m⟩) : drawX C Q k ops ⟨T, h, n, m⟩ := ⟨L0, hd, hx⟩
theorem drawL (cl : Nat → Nat) (ls : List Nat) (fs : List Bool) {C : Ctx} {Q : Exit → AS → Prop} {k : List XI} {ops : Array Oper} {T : Tab AV} {h : Heap} {n : Nat} {m : List Nat} (hd : drawOk ls ops = true) (hx : xdK C ops ⟨cl, ls, fs⟩ n 0 ops.toList (drawK C Q k (n + ops.size)) ⟨T, h, n, m⟩) : drawX C Q k ops ⟨T, h, n, m⟩ := ⟨⟨cl, ls, fs⟩, hd, hx⟩

section
variable {cl : Nat → Nat} {c : Nat} {σ : AS} {d : Option Tmp} {ty : TypeId} {pos : String} {aft : Array Edge} {g : Option (Nat × Bool)}
theorem locOk_of {cl : Nat → Nat} {c : Nat} {o : Oper} {σ : AS} {P : Prop} (h1 : callOf o.op = none) (h2 : (∀ x ∈ o.op.operands, topOk cl (c + 1) (σ.ev x)) ↔ P) : locOk cl (c + 1) o σ = P := by
  apply propext
  unfold locOk
  rw [← h2]
  constructor
  · rintro (h | h)
    · omega
    · exact h.2
  · exact fun h => .inr ⟨h1, h⟩
theorem locOk_load (t : TypeId) (a : Operand) : locOk cl (c + 1) ⟨d, .load t a, ty, pos, aft, g⟩ σ = topOk cl (c + 1) (σ.ev a) := locOk_of rfl (by simp [Op.operands])
theorem locOk_store (t : TypeId) (a x : Operand) : locOk cl (c + 1) ⟨d, .store t a x, ty, pos, aft, g⟩ σ = (topOk cl (c + 1) (σ.ev a) ∧ topOk cl (c + 1) (σ.ev x)) := locOk_of rfl (by simp [Op.operands])
theorem locOk_bin (o : BinOp) (t : TypeId) (x y : Operand) (yt : TypeId) : locOk cl (c + 1) ⟨d, .binOp o t x y yt, ty, pos, aft, g⟩ σ = (topOk cl (c + 1) (σ.ev x) ∧ topOk cl (c + 1) (σ.ev y)) := locOk_of rfl (by simp [Op.operands])
theorem locOk_fieldAddr (t : TypeId) (x : Operand) (f : Nat) : locOk cl (c + 1) ⟨d, .fieldAddr t x f, ty, pos, aft, g⟩ σ = topOk cl (c + 1) (σ.ev x) := locOk_of rfl (by simp [Op.operands])
theorem locOk_indexAddr (t : TypeId) (x i : Operand) : locOk cl (c + 1) ⟨d, .indexAddr t x i, ty, pos, aft, g⟩ σ = (topOk cl (c + 1) (σ.ev x) ∧ topOk cl (c + 1) (σ.ev i)) := locOk_of rfl (by simp [Op.operands])
theorem topOk_any : topOk cl c .any = True := by simp [topOk, topId]
theorem topOk_sc (v : Value) : topOk cl c (.sc v) = True := by simp [topOk, topId]
theorem topOk_agg (v : List AV) : topOk cl c (.agg v) = True := by simp [topOk, topId]
theorem topOk_emp : topOk cl c .emp = True := by simp [topOk, topId]
theorem topOk_lst (s : Nat) (v : List (List AV)) : topOk cl c (.lst s v) = True := by simp [topOk, topId]
theorem topOk_cptr (v : List AV) : topOk cl c (.cptr v) = True := by simp [topOk, topId]
theorem topOk_own (i g' l : Nat) : topOk cl c (.own i g' l) = (cl i = c) := by simp [topOk, topId]
theorem topOk_ptr (i o : Nat) : topOk cl c (.ptr i o) = (cl i = c) := by simp [topOk, topId]
theorem topOk_eptr (i g' l o : Nat) : topOk cl c (.eptr i g' l o) = (cl i = c) := by simp [topOk, topId]
end

/-- A call there: one that leaves the heap alone wherever it is made. -/
def callD (C : Ctx) (f : AV) (as : List AV) (d : Option Tmp) (σ : AS) (X : AS → Prop) : Prop := ∃ r, PureCall C.P σ.heap f as r ∧ X (σ.put d r)
theorem doD_call {C : Ctx} {al : Array Oper} {id : Nat} {d : Option Tmp} {f : Operand} {args : Array Operand} {tys : Array TypeId} {ty : TypeId} {pos : String} {aft : Array Edge} {σ : AS} {X : AS → Prop} :
    doD false C al id ⟨d, .call { callee := .value f, args := args, argTypes := tys }, ty, pos, aft, none⟩ σ X = callD C (σ.ev f) (args.toList.map σ.ev) d σ X := by
  unfold doD callD
  simp [callOf]

def guardD (v : AV) (want : Bool) (C : Ctx) (al : Array Oper) (id : Nat) (o : Oper) (σ : AS) (X : AS → Prop) : Prop := ∃ b, v = .sc (.bool b) ∧ ((b == want) = false → X (σ.put o.dst .any)) ∧ ((b == want) = true → doD false C al id o σ X)
theorem guardD_true {C : Ctx} {al : Array Oper} {id : Nat} {o : Oper} {σ : AS} {X : AS → Prop} : guardD (.sc (.bool true)) true C al id o σ X = doD false C al id o σ X := by simp [guardD]
theorem guardD_ff {C : Ctx} {al : Array Oper} {id : Nat} {o : Oper} {σ : AS} {X : AS → Prop} : guardD (.sc (.bool false)) false C al id o σ X = doD false C al id o σ X := by simp [guardD]
theorem guardD_tf {C : Ctx} {al : Array Oper} {id : Nat} {o : Oper} {σ : AS} {X : AS → Prop} : guardD (.sc (.bool true)) false C al id o σ X = X (σ.put o.dst .any) := by simp [guardD]
theorem guardD_ft {C : Ctx} {al : Array Oper} {id : Nat} {o : Oper} {σ : AS} {X : AS → Prop} : guardD (.sc (.bool false)) true C al id o σ X = X (σ.put o.dst .any) := by simp [guardD]
theorem doD_gcall {C : Ctx} {al : Array Oper} {id : Nat} {d : Option Tmp} {f : Operand} {args : Array Operand} {tys : Array TypeId} {ty : TypeId} {pos : String} {aft : Array Edge} {j : Nat} {want : Bool} {σ : AS} {X : AS → Prop} :
    doD false C al id ⟨d, .call { callee := .value f, args := args, argTypes := tys }, ty, pos, aft, some (j, want)⟩ σ X = guardD (gv al σ j) want C al id ⟨d, .call { callee := .value f, args := args, argTypes := tys }, ty, pos, aft, none⟩ σ X := by
  unfold guardD doD
  simp only [eq_iff_iff]
  constructor
  · rintro ⟨t, ⟨b, h1, rfl⟩, h2, h3⟩
    exact ⟨b, h1, h2, fun hb => ⟨true, rfl, fun h => (by cases h), fun _ => h3 hb⟩⟩
  · rintro ⟨b, h1, h2, h3⟩
    refine ⟨b == want, ⟨b, h1, rfl⟩, h2, fun hb => ?_⟩
    obtain ⟨t, rfl, _, h4⟩ := h3 hb
    exact h4 rfl

theorem Refs.aggF {A : Nat → Prop} {cs : List AV} (h : cs.all AV.noRef = true) : Refs A (.agg cs) := .agg fun c hc => .noRef (List.all_eq_true.1 h c hc)
theorem Refs.tupF {A : Nat → Prop} {cs : List AV} (h : ∀ c ∈ cs, Refs A c) : Refs A (.tup cs) := .tup h
theorem callD_fn {C : Ctx} {g : FuncId} {caps as : List AV} {d : Option Tmp} {σ : AS} {X : AS → Prop} (r : AV) (hr : Refs (fun _ => False) r) (hp : ∀ h nx K, K r h nx → ACall C.P g (as ++ caps) h nx K) (hx : X (σ.put d r)) : callD C (.fn (.func g) caps) as d σ X :=
  ⟨r, ⟨hr, fun h' nx K' _ hk => ACallV.of_fn (hp h' nx K' hk)⟩, hx⟩

/-! ### What lies below -/

theorem over_refl {nx : Nat} {h : Heap} : ∀ j, j < nx → look j h = look j h := fun _ _ => rfl
theorem over_hc {n nx : Nat} {h h0 : Heap} {o : AObj} (hn : nx ≤ n) (ho : ∀ j, j < nx → look j h = look j h0) : ∀ j, j < nx → look j (hc n o h) = look j h0 := fun j hj => by
  have : ¬ n = j := by omega
  simp only [look_hc, this, if_false]
  exact ho j hj
theorem over_upd {n nx : Nat} {h h0 : Heap} {o : AObj} (hn : nx ≤ n) (ho : ∀ j, j < nx → look j h = look j h0) : ∀ j, j < nx → look j (upd n o h) = look j h0 := fun j hj => by
  have : ¬ j = n := by omega
  simp only [look_upd, this, if_false]
  exact ho j hj

theorem over_del {n nx : Nat} {h h0 : Heap} (hn : nx ≤ n) (ho : ∀ j, j < nx → look j h = look j h0) : ∀ j, j < nx → look j (del n h) = look j h0 := fun j hj => by
  have : ¬ j = n := by omega
  simp only [look_del, this, if_false]
  exact ho j hj

theorem natNe {a b : Nat} (h : a ≠ b) : (a = b) = False := eq_false h

/-! ### Lists -/

/-- A place in a list as Go has it: -1: there is none. -/
def idxI : Option Nat → Int
  | some i => i
  | none => -1

theorem wrap_i64 {n : Int} (h1 : -9223372036854775808 ≤ n) (h2 : n ≤ 9223372036854775807) : IntKind.i64.wrap n = n := by
  simp only [IntKind.wrap, IntKind.signed, IntKind.bits]
  simp
  omega
theorem wrap_1 : IntKind.i64.wrap (0 + 1) = 1 := by decide
theorem wrap_2 : IntKind.i64.wrap (1 + 1) = 2 := by decide
end Go.Abs
