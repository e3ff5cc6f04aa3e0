/- The abstract layer, part T: the equations by which a walk goes. -/
import Derived.Test.YtlmkmmkhfkdagaaAbsS
set_option linter.unusedVariables false
set_option linter.unusedSimpArgs false
namespace Go.Abs
open Go.RowKit

def ob {α : Type} : Option α → (α → Prop) → Prop
  | some a, f => f a
  | none, _ => False
theorem ob_some {α : Type} (a : α) (f : α → Prop) : ob (some a) f = f a := rfl
theorem ob_map {α β : Type} (x : Option α) (g : α → β) (f : β → Prop) : ob (x.map g) f = ob x fun a => f (g a) := by cases x <;> rfl
theorem ob_ite {α : Type} (c : Prop) [Decidable c] (a : α) (f : α → Prop) : ob (if c then some a else none) f = (c ∧ f a) := by
  by_cases h : c <;> simp [h, ob]
theorem ob_iff {α : Type} (x : Option α) (f : α → Prop) : ob x f = ∃ a, x = some a ∧ f a := by cases x <;> simp [ob]

/-- One operation. -/
def doOp (C : Ctx) (all : Array Oper) (o : Oper) (σ : AS) (X : AS → Prop) : Prop :=
  ∃ t : Bool, (match o.guard with | none => t = true | some (j, want) => ∃ b, gv all σ j = .sc (.bool b) ∧ t = (b == want)) ∧
    (t = false → X (σ.put o.dst .any)) ∧
    (t = true → match callOf o.op with
      | some (f, args) => ACallV C.P (σ.ev f) (args.map σ.ev) σ.heap σ.next (fun r h' nx' => X { (σ.put o.dst r) with heap := h', next := nx' })
      | none => match nilCmp C.P o.op with
        | some (n, x) => ∃ ls, elems σ.heap (σ.ev x) = some ls ∧ ∀ b : Bool, (ls ≠ [] → b = false) → X (σ.put o.dst (.sc (.bool (b != n))))
        | none => ∃ r, opA C.P σ.heap σ.next σ.ev o.op = some r ∧ X (σ.next' o.dst r))

/-- One operation of a region whose order is open. -/
def doD (fl : Bool) (C : Ctx) (all : Array Oper) (id : Nat) (o : Oper) (σ : AS) (X : AS → Prop) : Prop :=
  ∃ t : Bool, (match o.guard with | none => t = true | some (j, want) => ∃ b, gv all σ j = .sc (.bool b) ∧ t = (b == want)) ∧
    (t = false → X (σ.put o.dst .any)) ∧
    (t = true → match callOf o.op with
      | some (f, args) => ∃ r, PureCall C.P σ.heap (σ.ev f) (args.map σ.ev) r ∧ X (σ.put o.dst r)
      | none => nilCmp C.P o.op = none ∧ ∃ r, opD fl C.P σ.heap id σ.ev o.op = some r ∧ X { (σ.put o.dst r.1) with heap := r.2.1 })

/-- A branch. -/
def condX (v : AV) (C : Ctx) (Q : Exit → AS → Prop) (k1 k2 : List XI) (σ : AS) : Prop := ∃ t, v = .sc (.bool t) ∧ (t = true → xt C Q k1 σ) ∧ (t = false → xt C Q k2 σ)
section
variable {C : Ctx} {Q : Exit → AS → Prop} {A B : List XI} {σ : AS}
theorem condX_true : condX (.sc (.bool true)) C Q A B σ = xt C Q A σ := by simp [condX]
theorem condX_false : condX (.sc (.bool false)) C Q A B σ = xt C Q B σ := by simp [condX]
theorem condX_bool (b : Bool) : condX (.sc (.bool b)) C Q A B σ = ((b = true → xt C Q A σ) ∧ (b = false → xt C Q B σ)) := by simp [condX]
theorem condX_decide (p : Prop) [Decidable p] : condX (.sc (.bool (decide p))) C Q A B σ = ((p → xt C Q A σ) ∧ (¬ p → xt C Q B σ)) := by simp [condX]
theorem condX_not (p : Bool) : condX (.sc (.bool (!p))) C Q A B σ = condX (.sc (.bool p)) C Q B A σ := by cases p <;> simp [condX]
end
/-- What is left to do behind one operation. -/
def obV (x : Option AV) (d : Option Tmp) (σ : AS) (X : AS → Prop) : Prop := ob x fun v => X (σ.put d v)
def obH (x : Option Heap) (d : Option Tmp) (v : AV) (n : Nat) (σ : AS) (X : AS → Prop) : Prop := ob x fun h => X { (σ.put d v) with heap := h, next := n }
def obC (x : Option (List AV)) (d : Option Tmp) (v : AV) (n : Nat) (σ : AS) (X : AS → Prop) : Prop := ob x fun cs => X { (σ.put d v) with heap := hc σ.next (.box cs) σ.heap, next := n }
def obB (x : Option (AV × Heap)) (d : Option Tmp) (n : Nat) (σ : AS) (X : AS → Prop) : Prop := ob x fun p => X { (σ.put d p.1) with heap := p.2, next := n }
def obR (x : Option (AV × Heap × Bool)) (d : Option Tmp) (σ : AS) (X : AS → Prop) : Prop := ob x fun r => X (σ.next' d r)
def pickX (v a b : AV) (d : Option Tmp) (σ : AS) (X : AS → Prop) : Prop := ∃ t, v = .sc (.bool t) ∧ X (σ.put d (if t then a else b))
def guardX (v : AV) (want : Bool) (C : Ctx) (al : Array Oper) (o : Oper) (σ : AS) (X : AS → Prop) : Prop := ∃ b, v = .sc (.bool b) ∧ ((b == want) = false → X (σ.put o.dst .any)) ∧ ((b == want) = true → doOp C al o σ X)
def callX (C : Ctx) (f : AV) (as : List AV) (d : Option Tmp) (σ : AS) (X : AS → Prop) : Prop := ACallV C.P f as σ.heap σ.next (fun r h' nx' => X { (σ.put d r) with heap := h', next := nx' })
def loopX (c : Code) (C : Ctx) (Q : Exit → AS → Prop) (k : List XI) (σ : AS) : Prop := ∃ n, XLoopN (fun Q' σ' => xt C Q' [.code c] σ') (fun e σ' => match e with
      | .exit id => (match popExit id k with
        | some k' => xt C Q k' σ'
        | none => Q (.exit id) σ')
      | e => Q e σ') n σ

section
variable {d : Option Tmp} {σ : AS} {X : AS → Prop}
theorem obV_some (v : AV) : obV (some v) d σ X = X (σ.put d v) := rfl
theorem obH_some (h : Heap) (v : AV) (n : Nat) : obH (some h) d v n σ X = X { (σ.put d v) with heap := h, next := n } := rfl
theorem obC_some (cs : List AV) (v : AV) (n : Nat) : obC (some cs) d v n σ X = X { (σ.put d v) with heap := hc σ.next (.box cs) σ.heap, next := n } := rfl
theorem obB_some (v : AV) (h : Heap) (n : Nat) : obB (some (v, h)) d n σ X = X { (σ.put d v) with heap := h, next := n } := rfl
theorem obR_some (r : AV × Heap × Bool) : obR (some r) d σ X = X (σ.next' d r) := rfl
theorem obV_ite (c : Prop) [Decidable c] (v : AV) : obV (if c then some v else none) d σ X = (c ∧ X (σ.put d v)) := ob_ite ..
theorem obH_ite (c : Prop) [Decidable c] (h : Heap) (v : AV) (n : Nat) : obH (if c then some h else none) d v n σ X = (c ∧ X { (σ.put d v) with heap := h, next := n }) := ob_ite ..
theorem obB_ite (c : Prop) [Decidable c] (p : AV × Heap) (n : Nat) : obB (if c then some p else none) d n σ X = (c ∧ X { (σ.put d p.1) with heap := p.2, next := n }) := ob_ite ..
theorem obR_ite (c : Prop) [Decidable c] (r : AV × Heap × Bool) : obR (if c then some r else none) d σ X = (c ∧ X (σ.next' d r)) := ob_ite ..
theorem pickX_bool (b : Bool) (x y : AV) : pickX (.sc (.bool b)) x y d σ X = X (σ.put d (if b then x else y)) := by simp [pickX]
theorem pickX_true (x y : AV) : pickX (.sc (.bool true)) x y d σ X = X (σ.put d x) := by simp [pickX]
theorem pickX_false (x y : AV) : pickX (.sc (.bool false)) x y d σ X = X (σ.put d y) := by simp [pickX]
theorem pickX_sc (b x y : Bool) : pickX (.sc (.bool b)) (.sc (.bool x)) (.sc (.bool y)) d σ X = X (σ.put d (.sc (.bool (if b then x else y)))) := by cases b <;> simp [pickX]
theorem guardX_bool (b want : Bool) {C : Ctx} {al : Array Oper} {o : Oper} : guardX (.sc (.bool b)) want C al o σ X = ((b ≠ want → X (σ.put o.dst .any)) ∧ (b = want → doOp C al o σ X)) := by simp [guardX]
theorem guardX_true {C : Ctx} {al : Array Oper} {o : Oper} : guardX (.sc (.bool true)) true C al o σ X = doOp C al o σ X := by simp [guardX]
theorem guardX_false {C : Ctx} {al : Array Oper} {o : Oper} : guardX (.sc (.bool false)) false C al o σ X = doOp C al o σ X := by simp [guardX]
theorem guardX_tf {C : Ctx} {al : Array Oper} {o : Oper} : guardX (.sc (.bool true)) false C al o σ X = X (σ.put o.dst .any) := by simp [guardX]
theorem guardX_ft {C : Ctx} {al : Array Oper} {o : Oper} : guardX (.sc (.bool false)) true C al o σ X = X (σ.put o.dst .any) := by simp [guardX]
end

section
variable {C : Ctx} {Q : Exit → AS → Prop} {k : List XI} {σ : AS}
theorem xt_nil : xt C Q [] σ = Q .normal σ := by rw [xt]
theorem xt_inB (i : Nat) : xt C Q (.inB i :: k) σ = xt C Q k σ := by rw [xt]
theorem xt_ops0 (al : Array Oper) : xt C Q (.ops al [] :: k) σ = xt C Q k σ := by rw [xt]
theorem xt_ops1 (al : Array Oper) (o : Oper) (rest : List Oper) : xt C Q (.ops al (o :: rest) :: k) σ = doOp C al o σ (xt C Q (.ops al rest :: k)) := by rw [xt]; rfl
theorem xt_skip : xt C Q (.code .skip :: k) σ = xt C Q k σ := by rw [xt]
theorem xt_seq (a b : Code) : xt C Q (.code (.seq a b) :: k) σ = xt C Q (.code a :: .code b :: k) σ := by rw [xt]
theorem xt_cond (c : Operand) (a b : Code) : xt C Q (.code (.cond c a b) :: k) σ = condX (σ.ev c) C Q (.code a :: k) (.code b :: k) σ := by rw [xt]; rfl
theorem xt_block (i : Nat) (c : Code) : xt C Q (.code (.block i c) :: k) σ = xt C Q (.code c :: .inB i :: k) σ := by rw [xt]
theorem xt_exit (i : Nat) : xt C Q (.code (.exit i) :: k) σ = (match popExit i k with
    | some k' => xt C Q k' σ
    | none => Q (.exit i) σ) := by
  rw [xt]
  split <;> rename_i h <;> simp [h]
theorem xt_ret : xt C Q (.code .ret :: k) σ = Q .ret σ := by rw [xt]
theorem xt_label (l : Nat) : xt C Q (.code (.label l) :: k) σ = xt C Q k σ := by rw [xt]
theorem xt_region (i : Nat) (ops : Array Oper) : xt C Q (.code (.region i ops false) :: k) σ = xt C Q (.ops ops ops.toList :: k) σ := by rw [xt]
theorem xt_draw (i : Nat) (ops : Array Oper) : xt C Q (.code (.region i ops true) :: k) σ = (∃ L : Loc, drawOk L.loc ops = true ∧ XD C ops L σ.next 0 ops.toList σ (fun σ' => xt C Q k { σ' with next := σ.next + ops.size })) := by rw [xt]
theorem xt_loop (c : Code) : xt C Q (.code (.loop c) :: k) σ = loopX c C Q k σ := by
  unfold loopX
  rw [xt]
  have : (fun (e : Exit) (σ' : AS) => match e with
      | .exit id => (match hp : popExit id k with
        | some k' => xt C Q k' σ'
        | none => Q (.exit id) σ')
      | e => Q e σ') = (fun (e : Exit) (σ' : AS) => match e with
      | .exit id => (match popExit id k with
        | some k' => xt C Q k' σ'
        | none => Q (.exit id) σ')
      | e => Q e σ') := by
    funext e σ'
    cases e <;> simp only
    rename_i id
    split <;> rename_i h <;> simp [h]
  exact congrArg (fun K => ∃ n, XLoopN (fun Q' σ' => xt C Q' [.code c] σ') K n σ) this

theorem xd_nil (all : Array Oper) (L : Loc) (b i : Nat) (K : AS → Prop) : XD C all L b i [] σ K = K σ := rfl
theorem xd_cons (all : Array Oper) (L : Loc) (b i : Nat) (o : Oper) (rest : List Oper) (K : AS → Prop) : XD C all L b i (o :: rest) σ K = (locOk L.cl (L.loc.getD i 0) o σ ∧ doD (L.frz.getD i false) C all (b + i) o σ fun σ' => XD C all L b (i + 1) rest σ' K) := rfl
end

section
variable {C : Ctx} {al : Array Oper} {σ : AS} {X : AS → Prop} {d : Option Tmp} {ty : TypeId} {pos : String} {aft : Array Edge}

theorem doOp_guard {op : Op} {j : Nat} {want : Bool} : doOp C al ⟨d, op, ty, pos, aft, some (j, want)⟩ σ X = guardX (gv al σ j) want C al ⟨d, op, ty, pos, aft, none⟩ σ X := by
  unfold guardX doOp
  simp only [eq_iff_iff]
  constructor
  · rintro ⟨t, ⟨b, h1, rfl⟩, h2, h3⟩
    exact ⟨b, h1, h2, fun hb => ⟨true, rfl, fun h => (by cases h), fun _ => h3 hb⟩⟩
  · rintro ⟨b, h1, h2, h3⟩
    refine ⟨b == want, ⟨b, h1, rfl⟩, h2, fun hb => ?_⟩
    obtain ⟨t, rfl, _, h4⟩ := h3 hb
    exact h4 rfl

theorem doOp_plain {op : Op} (h1 : callOf op = none) (h2 : nilCmp C.P op = none) : doOp C al ⟨d, op, ty, pos, aft, none⟩ σ X = ob (opA C.P σ.heap σ.next σ.ev op) fun r => X (σ.next' d r) := by
  unfold doOp
  simp only [h1, h2, ob_iff]
  simp

theorem next'_false (v : AV) : σ.next' d (v, σ.heap, false) = σ.put d v := by cases d <;> rfl
theorem next'_heap (v : AV) (h : Heap) : σ.next' d (v, h, false) = { (σ.put d v) with heap := h, next := σ.next } := by cases d <;> rfl
theorem next'_true (v : AV) (h : Heap) : σ.next' d (v, h, true) = { (σ.put d v) with heap := h, next := σ.next + 1 } := by cases d <;> rfl

theorem doOp_move (x : Operand) : doOp C al ⟨d, .move x, ty, pos, aft, none⟩ σ X = X (σ.put d (σ.ev x)) := by
  rw [doOp_plain rfl rfl]; simp only [opA, ob_some, next'_false, next'_true]
theorem doOp_assign (x : Operand) : doOp C al ⟨d, .assign x, ty, pos, aft, none⟩ σ X = X (σ.put d (σ.ev x)) := by
  rw [doOp_plain rfl rfl]; simp only [opA, ob_some, next'_false, next'_true]
theorem doOp_pick (c a b : Operand) : doOp C al ⟨d, .pick c a b, ty, pos, aft, none⟩ σ X = pickX (σ.ev c) (σ.ev a) (σ.ev b) d σ X := by
  rw [doOp_plain rfl rfl, ob_iff]
  simp only [opA, pickX, eq_iff_iff]
  constructor
  · rintro ⟨r, h, hx⟩
    split at h
    · rename_i t ht
      cases h
      exact ⟨t, ht, by simpa only [next'_false] using hx⟩
    · cases h
  · rintro ⟨t, ht, hx⟩
    exact ⟨_, by rw [ht], by simpa only [next'_false] using hx⟩
theorem doOp_alloc (t : TypeId) : doOp C al ⟨d, .alloc t, ty, pos, aft, none⟩ σ X = obH (allocA C.P σ.next t σ.heap) d (.ptr σ.next 0) (σ.next + 1) σ X := by
  unfold obH
  rw [doOp_plain rfl rfl]; simp only [opA, ob_map, next'_false, next'_true]
theorem doOp_box (t : TypeId) (x : Operand) : doOp C al ⟨d, .box t x, ty, pos, aft, none⟩ σ X = obC (cellsA (σ.ev x)) d (.ptr σ.next 0) (σ.next + 1) σ X := by
  unfold obC
  rw [doOp_plain rfl rfl]; simp only [opA, ob_map, next'_false, next'_true]
theorem doOp_build (t : TypeId) (ps : Array (Nat × Operand)) : doOp C al ⟨d, .build t ps, ty, pos, aft, none⟩ σ X = obV (buildA C.P t (ps.toList.map fun p => (p.1, σ.ev p.2))) d σ X := by
  unfold obV
  rw [doOp_plain rfl rfl]; simp only [opA, ob_map, next'_false, next'_true]
theorem doOp_buildSlice (t : TypeId) (n : Nat) (ps : Array (Nat × Operand)) : doOp C al ⟨d, .buildSlice t n ps, ty, pos, aft, none⟩ σ X = obB (buildSliceA C.P σ.heap σ.next t n (ps.toList.map fun p => (p.1, σ.ev p.2))) d (σ.next + 1) σ X := by
  unfold obB
  rw [doOp_plain rfl rfl]; simp only [opA, ob_map, next'_false, next'_true]
theorem doOp_load (t : TypeId) (a : Operand) : doOp C al ⟨d, .load t a, ty, pos, aft, none⟩ σ X = obV (loadA C.P σ.heap t (σ.ev a)) d σ X := by
  unfold obV
  rw [doOp_plain rfl rfl]; simp only [opA, ob_map, next'_false, next'_true]
theorem doOp_store (t : TypeId) (a x : Operand) : doOp C al ⟨d, .store t a x, ty, pos, aft, none⟩ σ X = obH (storeA C.P σ.heap t (σ.ev a) (σ.ev x)) d .any σ.next σ X := by
  unfold obH
  rw [doOp_plain rfl rfl]; simp only [opA, ob_map, next'_heap]
theorem doOp_binOp {op : BinOp} {t : TypeId} {x y : Operand} {yt : TypeId} (h : ∀ v, y = .const v → v ≠ .slice none 0 0) : doOp C al ⟨d, .binOp op t x y yt, ty, pos, aft, none⟩ σ X = obV (binA C.P σ.heap op t x y (σ.ev x) (σ.ev y)) d σ X := by
  unfold obV
  have hn : nilCmp C.P (.binOp op t x y yt) = none := by
    unfold nilCmp
    split
    · rename_i heq
      cases heq
      exact absurd rfl (h _ rfl)
    · rfl
  rw [doOp_plain rfl hn]; simp only [opA, ob_map, next'_false, next'_true]
theorem doOp_bin_tmp (op : BinOp) (t : TypeId) (x : Operand) (y : Tmp) (yt : TypeId) : doOp C al ⟨d, .binOp op t x (.tmp y) yt, ty, pos, aft, none⟩ σ X = obV (binA C.P σ.heap op t x (.tmp y) (σ.ev x) (σ.ev (.tmp y))) d σ X := doOp_binOp (by simp)
theorem doOp_bin_int (op : BinOp) (t : TypeId) (x : Operand) (k : IntKind) (n : Int) (yt : TypeId) : doOp C al ⟨d, .binOp op t x (.const (.int k n)) yt, ty, pos, aft, none⟩ σ X = obV (binA C.P σ.heap op t x (.const (.int k n)) (σ.ev x) (.sc (.int k n))) d σ X := doOp_binOp (by simp)
theorem doOp_bin_str (op : BinOp) (t : TypeId) (x : Operand) (s : ByteArray) (yt : TypeId) : doOp C al ⟨d, .binOp op t x (.const (.string s)) yt, ty, pos, aft, none⟩ σ X = obV (binA C.P σ.heap op t x (.const (.string s)) (σ.ev x) (.sc (.string s))) d σ X := doOp_binOp (by simp)
theorem doOp_bin_bool (op : BinOp) (t : TypeId) (x : Operand) (s : Bool) (yt : TypeId) : doOp C al ⟨d, .binOp op t x (.const (.bool s)) yt, ty, pos, aft, none⟩ σ X = obV (binA C.P σ.heap op t x (.const (.bool s)) (σ.ev x) (.sc (.bool s))) d σ X := doOp_binOp (by simp)
theorem doOp_bin_ptr (op : BinOp) (t : TypeId) (x : Operand) (yt : TypeId) : doOp C al ⟨d, .binOp op t x (.const (.pointer none)) yt, ty, pos, aft, none⟩ σ X = obV (binA C.P σ.heap op t x (.const (.pointer none)) (σ.ev x) (.sc (.pointer none))) d σ X := doOp_binOp (by simp)
theorem doOp_bin_nilf (op : BinOp) (t : TypeId) (x : Operand) (yt : TypeId) : doOp C al ⟨d, .binOp op t x (.const .nilFunc) yt, ty, pos, aft, none⟩ σ X = obV (binA C.P σ.heap op t x (.const .nilFunc) (σ.ev x) (.sc .nilFunc)) d σ X := doOp_binOp (by simp)
theorem doOp_bin_nili (op : BinOp) (t : TypeId) (x : Operand) (yt : TypeId) : doOp C al ⟨d, .binOp op t x (.const .nilIface) yt, ty, pos, aft, none⟩ σ X = obV (binA C.P σ.heap op t x (.const .nilIface) (σ.ev x) (.sc .nilIface)) d σ X := doOp_binOp (by simp)
theorem doOp_unOp (op : UnOp) (t : TypeId) (x : Operand) : doOp C al ⟨d, .unOp op t x, ty, pos, aft, none⟩ σ X = obV (unA op (σ.ev x)) d σ X := by
  unfold obV
  rw [doOp_plain rfl rfl]; simp only [opA, ob_map, next'_false, next'_true]
theorem doOp_convert (s t : TypeId) (x : Operand) : doOp C al ⟨d, .convert s t x, ty, pos, aft, none⟩ σ X = obV (convA C.P s t (σ.ev x)) d σ X := by
  unfold obV
  rw [doOp_plain rfl rfl]; simp only [opA, ob_map, next'_false, next'_true]
theorem doOp_iface (t : TypeId) (x : Operand) : doOp C al ⟨d, .makeInterface t x, ty, pos, aft, none⟩ σ X = obV (mkIfaceA C.P t (σ.ev x)) d σ X := by
  unfold obV
  rw [doOp_plain rfl rfl]; simp only [opA, ob_map, next'_false, next'_true]
theorem doOp_makeFunc (f : Fn) (caps : Array Operand) : doOp C al ⟨d, .makeFunc f #[] caps, ty, pos, aft, none⟩ σ X = X (σ.put d (.fn f (caps.toList.map σ.ev))) := by
  rw [doOp_plain rfl rfl]; simp only [opA, List.size_toArray, List.length_nil, if_true, ob_some, next'_false, next'_true]
theorem doOp_makeMap (t : TypeId) : doOp C al ⟨d, .makeMap t none, ty, pos, aft, none⟩ σ X = X { (σ.put d (.mp σ.next)) with heap := hc σ.next (.map []) σ.heap, next := σ.next + 1 } := by
  rw [doOp_plain rfl rfl]; simp only [opA, ob_some, next'_false, next'_true]
theorem doOp_slice (t : TypeId) (x : Operand) (lo hi mx : Option Operand) : doOp C al ⟨d, .slice t x lo hi mx, ty, pos, aft, none⟩ σ X = obV (sliceA C.P σ.heap t (σ.ev x) (lo.map σ.ev) (hi.map σ.ev) (mx.map σ.ev)) d σ X := by
  unfold obV
  rw [doOp_plain rfl rfl]; simp only [opA, ob_map, next'_false, next'_true]
theorem doOp_fieldAddr (t : TypeId) (x : Operand) (f : Nat) : doOp C al ⟨d, .fieldAddr t x f, ty, pos, aft, none⟩ σ X = obV (fieldAddrA C.P σ.heap t (σ.ev x) f) d σ X := by
  unfold obV
  rw [doOp_plain rfl rfl]; simp only [opA, ob_map, next'_false, next'_true]
theorem doOp_field (t : TypeId) (x : Operand) (f : Nat) : doOp C al ⟨d, .field t x f, ty, pos, aft, none⟩ σ X = obV (fieldA C.P t (σ.ev x) f) d σ X := by
  unfold obV
  rw [doOp_plain rfl rfl]; simp only [opA, ob_map, next'_false, next'_true]
theorem doOp_indexAddr (t : TypeId) (x i : Operand) : doOp C al ⟨d, .indexAddr t x i, ty, pos, aft, none⟩ σ X = obV (indexAddrA C.P σ.heap t (σ.ev x) (σ.ev i)) d σ X := by
  unfold obV
  rw [doOp_plain rfl rfl]; simp only [opA, ob_map, next'_false, next'_true]
theorem doOp_index (t : TypeId) (x i : Operand) : doOp C al ⟨d, .index t x i, ty, pos, aft, none⟩ σ X = obV (indexA C.P t (σ.ev x) (σ.ev i)) d σ X := by
  unfold obV
  rw [doOp_plain rfl rfl]; simp only [opA, ob_map, next'_false, next'_true]
theorem doOp_lookup (t : TypeId) (m key : Operand) (ok : Bool) : doOp C al ⟨d, .lookup t m key ok, ty, pos, aft, none⟩ σ X = obV (lookupA C.P σ.heap t (σ.ev m) (σ.ev key) ok) d σ X := by
  unfold obV
  rw [doOp_plain rfl rfl]; simp only [opA, ob_map, next'_false, next'_true]
theorem doOp_mapUpdate (t : TypeId) (m key x : Operand) : doOp C al ⟨d, .mapUpdate t m key x, ty, pos, aft, none⟩ σ X = obH (mapSetA σ.heap C.P t (σ.ev m) (σ.ev key) (σ.ev x)) d .any σ.next σ X := by
  unfold obH
  rw [doOp_plain rfl rfl]; simp only [opA, ob_map, next'_heap]
theorem doOp_insert (t : TypeId) (m key x : Operand) : doOp C al ⟨d, .insert t m key x, ty, pos, aft, none⟩ σ X = obH (mapSetA σ.heap C.P t (σ.ev m) (σ.ev key) (σ.ev x)) d .any σ.next σ X := by
  unfold obH
  rw [doOp_plain rfl rfl]; simp only [opA, ob_map, next'_heap]
theorem doOp_extract (x : Operand) (i : Nat) : doOp C al ⟨d, .extract x i, ty, pos, aft, none⟩ σ X = obV (extractA (σ.ev x) i) d σ X := by
  unfold obV
  rw [doOp_plain rfl rfl]; simp only [opA, ob_map, next'_false, next'_true]
theorem doOp_len (x : Operand) (t : TypeId) : doOp C al ⟨d, .call { callee := .builtin .len, args := #[x], argTypes := #[t] }, ty, pos, aft, none⟩ σ X = obV (lenA C.P σ.heap t (σ.ev x)) d σ X := by
  unfold obV
  rw [doOp_plain rfl rfl]; simp only [opA, ob_map, next'_false, next'_true]
theorem doOp_append (s x : Operand) (t : TypeId) : doOp C al ⟨d, .call { callee := .builtin .append, args := #[s, x], argTypes := #[t, t] }, ty, pos, aft, none⟩ σ X = obR (appendA C.P σ.heap σ.next t (σ.ev s) (σ.ev x)) d σ X := by
  unfold obR
  rw [doOp_plain rfl rfl]; simp only [opA, if_true]
theorem doOp_call (f : Operand) (args : Array Operand) (tys : Array TypeId) : doOp C al ⟨d, .call { callee := .value f, args := args, argTypes := tys }, ty, pos, aft, none⟩ σ X =
    callX C (σ.ev f) (args.toList.map σ.ev) d σ X := by
  unfold doOp callX
  simp [callOf]
theorem doOp_nil {op : BinOp} {t : TypeId} {x : Operand} {yt : TypeId} : doOp C al ⟨d, .binOp op t x (.const (.slice none 0 0)) yt, ty, pos, aft, none⟩ σ X = match nilCmp C.P (.binOp op t x (.const (.slice none 0 0)) yt) with
    | some (n, x) => ∃ ls, elems σ.heap (σ.ev x) = some ls ∧ ∀ b : Bool, (ls ≠ [] → b = false) → X (σ.put d (.sc (.bool (b != n))))
    | none => ob (opA C.P σ.heap σ.next σ.ev (.binOp op t x (.const (.slice none 0 0)) yt)) fun r => X (σ.next' d r) := by
  unfold doOp
  simp only [callOf, ob_iff]
  split <;> rename_i h <;> simp [h]

theorem gv_dst {all : Array Oper} {j : Nat} {op : Op} {t : Tmp} {e} (h : all[j]? = some ⟨some t, op, ty, pos, aft, e⟩) : gv all σ j = σ.ev (.tmp t) := by simp [gv, h]

/-! ### The parts, in the forms a walk wants -/
section
variable {P : Program} {h : Heap}
theorem binA_int (op : BinOp) (t : TypeId) (x y : Operand) (k : IntKind) (a b : Int) : binA P h op t x y (.sc (.int k a)) (.sc (.int k b)) = (intBin op k a b).map .sc := by simp [binA]
theorem binA_str (op : BinOp) (t : TypeId) (x y : Operand) (a b : ByteArray) : binA P h op t x y (.sc (.string a)) (.sc (.string b)) = (strBin op a b).map .sc := rfl
theorem binA_agg (op : BinOp) (t : TypeId) (x y : Operand) (a b : List AV) : binA P h op t x y (.agg a) (.agg b) = (match tiOf P t with
    | none => none
    | some ti => boolOf op (match ti.eqk with
    | some ks => if ti.agg then eqCells ks a b else none
    | none => none)) := rfl
theorem binA_bool (op : BinOp) (t : TypeId) (x y : Operand) (a b : Bool) : binA P h op t x y (.sc (.bool a)) (.sc (.bool b)) = (match tiOf P t with
    | none => none
    | some ti => boolOf op (if ti.bool then some (a == b) else none)) := rfl
theorem eqCell_int (k : IntKind) (a b : Int) : eqCell .int (.sc (.int k a)) (.sc (.int k b)) = some (decide (a = b)) := by simp [eqCell]
theorem eqCell_str (a b : ByteArray) : eqCell .str (.sc (.string a)) (.sc (.string b)) = some (decide (a = b)) := rfl
theorem eqCell_bool (a b : Bool) : eqCell .bool (.sc (.bool a)) (.sc (.bool b)) = some (a == b) := rfl

theorem elems_emp : elems h .emp = some [] := rfl
theorem elems_lst (sz : Nat) (l : List (List AV)) : elems h (.lst sz l) = some l := rfl
theorem elems_own {id g lo : Nat} : elems h (.own id g lo) = (match look id h with
    | some (.arr g' _ L) => if g = g' then some (L.drop lo) else none
    | _ => none) := rfl
theorem cellsA_sc {v : Value} (h : v.oneCell' = true) : cellsA (.sc v) = some [.sc v] := by simp [cellsA, AV.one, h]
theorem cellsA_int (k : IntKind) (n : Int) : cellsA (.sc (.int k n)) = some [.sc (.int k n)] := rfl
theorem cellsA_str (s : ByteArray) : cellsA (.sc (.string s)) = some [.sc (.string s)] := rfl
theorem cellsA_bool (s : Bool) : cellsA (.sc (.bool s)) = some [.sc (.bool s)] := rfl
theorem cellsA_agg (l : List AV) : cellsA (.agg l) = some l := rfl
theorem cellsA_emp : cellsA .emp = some [.emp] := rfl
theorem cellsA_lst (sz : Nat) (l : List (List AV)) : cellsA (.lst sz l) = some [.lst sz l] := rfl
theorem cellsA_own (id g lo : Nat) : cellsA (.own id g lo) = some [.own id g lo] := rfl
theorem cellsA_ptr (id o : Nat) : cellsA (.ptr id o) = some [.ptr id o] := rfl
theorem cellsA_fn (f : Fn) (cs : List AV) : cellsA (.fn f cs) = some [.fn f cs] := rfl
theorem cellsA_mp (id : Nat) : cellsA (.mp id) = some [.mp id] := rfl
theorem cellsA_yld (id : Nat) : cellsA (.yld id) = some [.yld id] := rfl

theorem putAt_all {α : Type} (cs ns : List α) (h : ns.length = cs.length) : putAt cs 0 ns = ns := by simp [putAt, h]
theorem put_at0 {α : Type} (c : α) (cs : List α) (n : α) : putAt (c :: cs) 0 [n] = n :: cs := by simp [putAt]
theorem put_atS {α : Type} (c : α) (cs : List α) (o : Nat) (ns : List α) : putAt (c :: cs) (o + 1) ns = c :: putAt cs o ns := by simp [putAt, Nat.add_right_comm]

theorem box_id {α : Type} (nx : Nat) (a b : α) : (if nx + 1 = nx then a else b) = b := by simp
end

theorem ev_tmp (T : Tab AV) (h : Heap) (n : Nat) (m : List Nat) (t : Tmp) : (AS.mk T h n m).ev (.tmp t) = (look t T).getD .any := rfl
theorem ev_const (v : Value) : σ.ev (.const v) = ofConst v := rfl
theorem ev_func (f : FuncId) : σ.ev (.func f) = .fn (.func f) [] := rfl
theorem put_some (T : Tab AV) (h : Heap) (n : Nat) (m : List Nat) (t : Tmp) (v : AV) : (AS.mk T h n m).put (some t) v = ⟨hc t v T, h, n, m⟩ := rfl
theorem put_none (v : AV) : σ.put none v = σ := rfl
theorem next_put (T : Tab AV) (h : Heap) (n : Nat) (m : List Nat) (t : Tmp) (v : AV) (h' : Heap) (fr : Bool) : (AS.mk T h n m).next' (some t) (v, h', fr) = ⟨hc t v T, h', if fr then n + 1 else n, m⟩ := rfl
end
end Go.Abs
