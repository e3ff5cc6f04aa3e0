/- The abstract layer, part P: code, by content: what must be shown, and that the machine then does it. -/
import Derived.Test.YtlmkmmkhfkdagaaAbsR
import Derived.TacticsIn
import Derived.OrdersIn
import Derived.Still
set_option linter.unusedVariables false
set_option linter.unusedSimpArgs false
namespace Go.Abs
open Go.RowKit

inductive XI where
  | code (c : Code)
  | ops (all : Array Oper) (l : List Oper)
  | inB (id : Nat)

def popExit (id : Nat) : List XI → Option (List XI)
  | [] => none
  | .inB i :: k => if i = id then some k else popExit id k
  | _ :: k => popExit id k

def csz : Code → Nat
  | .seq a b => csz a + csz b + 1
  | .cond _ a b => csz a + csz b + 1
  | .block _ c => csz c + 3
  | .loop c => csz c + 1
  | .region _ ops _ => ops.size + 2
  | .rangeFunc _ _ a b => csz a + csz b + 1
  | .scope b => csz b + 1
  | _ => 1

def XI.sz : XI → Nat
  | .code c => csz c
  | .ops _ l => l.length + 1
  | .inB _ => 1

def tsz : List XI → Nat
  | [] => 0
  | x :: k => x.sz + tsz k

theorem csz_pos (c : Code) : 1 ≤ csz c := by cases c <;> simp [csz]

theorem popExit_sz {id : Nat} : ∀ {k k' : List XI}, popExit id k = some k' → tsz k' ≤ tsz k
  | [], k', h => by simp [popExit] at h
  | .inB i :: k, k', h => by
    simp only [popExit] at h
    split at h
    · cases h; simp only [tsz]; omega
    · have := popExit_sz h; simp only [tsz]; omega
  | .code c :: k, k', h => by have := popExit_sz (k := k) (by simpa [popExit] using h); simp only [tsz]; omega
  | .ops a l :: k, k', h => by have := popExit_sz (k := k) (by simpa [popExit] using h); simp only [tsz]; omega

def callOf : Op → Option (Operand × List Operand)
  | .call { callee := .value f, args := args, argTypes := _ } => some (f, args.toList)
  | _ => none

/-- A slice held against nil: is it '!=', and which one. -/
def nilCmp (P : Program) : Op → Option (Bool × Operand)
  | .binOp op t x (.const (.slice none 0 0)) _ => match tiOf P t with
    | some ti => if ti.elem.isSome then (match op with | .eql => some (false, x) | .neq => some (true, x) | _ => none) else none
    | none => none
  | _ => none

/-- A guard's value. -/
def gv (all : Array Oper) (σ : AS) (j : Nat) : AV := match (all[j]?).bind (·.dst) with
  | some d => σ.ev (.tmp d)
  | none => .any

/-- Rounds of a loop. -/
def XLoopN (body : (Exit → AS → Prop) → AS → Prop) (Kq : Exit → AS → Prop) : Nat → AS → Prop
  | 0, _ => False
  | n + 1, σ => body (fun e σ' => match e with
    | .normal => XLoopN body Kq n σ'
    | e => Kq e σ') σ

/-- The record of a loop over a function, as it begins. -/
def loopRec (C : Ctx) (σ : AS) (params : Array Tmp) (assign body : Code) : ALoop :=
  { st := .ready, pend := none, tmps := σ.tmps, nt := C.nt, params, assign, body }

/-- The state in which the function that is ranged over is called, and the loop's number. -/
def rangeIn (C : Ctx) (σ : AS) (params : Array Tmp) (assign body : Code) : Nat × AS := match C.rid with
  | none => (σ.next + 1, { σ with heap := hc (σ.next + 1) (.loop (loopRec C σ params assign body)) (hc σ.next .dfr σ.heap), next := σ.next + 2, marks := σ.next :: σ.marks })
  | some _ => (σ.next, { σ with heap := hc σ.next (.loop (loopRec C σ params assign body)) σ.heap, next := σ.next + 1 })

/-- The state behind the loop. -/
def rangeOut (σ1 : AS) (lid : Nat) (r : ALoop) (h : Heap) (nx : Nat) : AS := { σ1 with heap := upd lid (.loop { r with st := .exhausted }) h, next := nx }

/-- The objects that a value leads to, in one step or many. -/
def Reach (h : Heap) (v : AV) (k : Nat) : Prop := ∀ A : Nat → Prop, Refs A v → (∀ j o, A j → look j h = some o → ORefs A o) → A k

/-- A call that leaves the heap alone wherever it is made, as long as the objects to which its operands lead are there. -/
def PureCall (P : Program) (h : Heap) (f : AV) (args : List AV) (r : AV) : Prop :=
  Refs (fun _ => False) r ∧ ∀ h' nx K', (∀ k, (Reach h f k ∨ ∃ a ∈ args, Reach h a k) → look k h' = look k h) → K' r h' nx → ACallV P f args h' nx K'

/-- Classes of objects, and for each operation the class of its objects (0: not told). -/
structure Loc where
  cl : Nat → Nat
  loc : List Nat
  frz : List Bool

def L0 : Loc := ⟨fun _ => 0, [], []⟩

/-- A slice that is built, frozen at once. -/
def frzA (P : Program) (t : TypeId) (len : Nat) (parts : List (Nat × AV)) : Option AV :=
  match tiOf P t with
  | none => none
  | some ti => match ti.elem with
    | none => none
    | some e => match tiOf P e with
      | none => none
      | some te => match rowsA te.size 0 parts with
        | none => none
        | some rows => if te.zeroOk ∧ rows.length = len ∧ len * te.size ≤ 16777216 ∧ rows.all (fun cs => cs.all AV.noRef) = true then some (.lst te.size rows) else none

/-- An operation there: what is built may be frozen at once. -/
def opD (fl : Bool) (P : Program) (h : Heap) (id : Nat) (ρ : Operand → AV) (op : Op) : Option (AV × Heap × Bool) := match fl with
  | false => opA P h id ρ op
  | true => match op with
    | .buildSlice t len parts => (frzA P t len (parts.toList.map fun p => (p.1, ρ p.2))).map fun v => (v, h, false)
    | _ => none

/-- The object that a value leads to. -/
def topId : AV → Option Nat
  | .own id _ _ => some id
  | .ptr id _ => some id
  | .eptr id _ _ _ => some id
  | .mp id => some id
  | _ => none

def topOk (cl : Nat → Nat) (c : Nat) (v : AV) : Prop := ∀ k, topId v = some k → cl k = c

/-- An operation's objects are of its class. -/
def locOk (cl : Nat → Nat) (c : Nat) (o : Oper) (σ : AS) : Prop := c = 0 ∨ (callOf o.op = none ∧ ∀ x ∈ o.op.operands, topOk cl c (σ.ev x))

/-- A region whose order is open, walked in the order of the text. -/
def XD (C : Ctx) (all : Array Oper) (L : Loc) (base : Nat) : Nat → List Oper → AS → (AS → Prop) → Prop
  | _, [], σ, K => K σ
  | i, o :: rest, σ, K =>
    locOk L.cl (L.loc.getD i 0) o σ ∧
    ∃ t : Bool, (match o.guard with | none => t = true | some (j, want) => ∃ b, gv all σ j = .sc (.bool b) ∧ t = (b == want)) ∧
    (t = false → XD C all L base (i + 1) rest (σ.put o.dst .any) K) ∧
    (t = true → match callOf o.op with
      | some (f, args) => ∃ r, PureCall C.P σ.heap (σ.ev f) (args.map σ.ev) r ∧ XD C all L base (i + 1) rest (σ.put o.dst r) K
      | none => nilCmp C.P o.op = none ∧ ∃ r, opD (L.frz.getD i false) C.P σ.heap (base + i) σ.ev o.op = some r ∧ XD C all L base (i + 1) rest { (σ.put o.dst r.1) with heap := r.2.1 } K)

/-- Does an operation read memory; write it? -/
def opRd : Op → Bool
  | .move _ | .assign _ | .pick .. | .alloc _ | .box .. | .build .. | .buildSlice .. | .unOp .. | .convert .. | .makeInterface .. | .makeFunc .. | .makeMap .. | .field .. | .index .. | .extract .. => false
  | _ => true
def opWr : Op → Bool
  | .store .. | .mapUpdate .. | .insert .. => true
  | .call { callee := .builtin .append, .. } => true
  | _ => false
def clash (a b : Op) : Bool := (opWr a && (opRd b || opWr b)) || (opWr b && (opRd a || opWr a))

/-- Is an operation bound to come ahead of another one? -/
def bef (ops : Array Oper) : Nat → Nat → Nat → Bool
  | 0, _, _ => false
  | n + 1, i, j => match ops[j]? with
    | some oj => oj.after.any fun e => Region.binds .any e && (e.on == i || bef ops n i e.on)
    | none => false

/-- Are two operations' objects of two classes? -/
def farL (loc : List Nat) (i j : Nat) : Bool := !(loc.getD i 0 == 0) && (!(loc.getD j 0 == 0) && !(loc.getD i 0 == loc.getD j 0))

/-- May the region be walked in the order of the text? -/
def drawOk (L : List Nat) (ops : Array Oper) : Bool :=
  Region.lexB .any ops && (List.range ops.size).all fun i => (List.range ops.size).all fun j => match ops[i]?, ops[j]? with
    | some oi, some oj => i == j || !clash oi.op oj.op || bef ops 4 i j || bef ops 4 j i || farL L i j
    | _, _ => true

def xt (C : Ctx) : (Exit → AS → Prop) → List XI → AS → Prop
  | Q, [], σ => Q .normal σ
  | Q, .inB _ :: k, σ => xt C Q k σ
  | Q, .ops _ [] :: k, σ => xt C Q k σ
  | Q, .ops all (o :: rest) :: k, σ =>
    ∃ t : Bool, (match o.guard with | none => t = true | some (j, want) => ∃ b, gv all σ j = .sc (.bool b) ∧ t = (b == want)) ∧
    (t = false → xt C Q (.ops all rest :: k) (σ.put o.dst .any)) ∧
    (t = true → match callOf o.op with
      | some (f, args) => ACallV C.P (σ.ev f) (args.map σ.ev) σ.heap σ.next (fun r h' nx' => xt C Q (.ops all rest :: k) { (σ.put o.dst r) with heap := h', next := nx' })
      | none => match nilCmp C.P o.op with
        | some (n, x) => ∃ ls, elems σ.heap (σ.ev x) = some ls ∧ ∀ b : Bool, (ls ≠ [] → b = false) → xt C Q (.ops all rest :: k) (σ.put o.dst (.sc (.bool (b != n))))
        | none => ∃ r, opA C.P σ.heap σ.next σ.ev o.op = some r ∧ xt C Q (.ops all rest :: k) (σ.next' o.dst r))
  | Q, .code .skip :: k, σ => xt C Q k σ
  | Q, .code (.seq a b) :: k, σ => xt C Q (.code a :: .code b :: k) σ
  | Q, .code (.cond c a b) :: k, σ => ∃ t, σ.ev c = .sc (.bool t) ∧ (t = true → xt C Q (.code a :: k) σ) ∧ (t = false → xt C Q (.code b :: k) σ)
  | Q, .code (.block id c) :: k, σ => xt C Q (.code c :: .inB id :: k) σ
  | Q, .code (.exit id) :: k, σ => match hp : popExit id k with
    | some k' => xt C Q k' σ
    | none => Q (.exit id) σ
  | Q, .code .ret :: k, σ => Q .ret σ
  | Q, .code (.region _ ops false) :: k, σ => xt C Q (.ops ops ops.toList :: k) σ
  | Q, .code (.region _ ops true) :: k, σ => ∃ L : Loc, drawOk L.loc ops = true ∧ XD C ops L σ.next 0 ops.toList σ (fun σ' => xt C Q k { σ' with next := σ.next + ops.size })
  | Q, .code (.loop c) :: k, σ => ∃ n, XLoopN (fun Q' σ' => xt C Q' [.code c] σ') (fun e σ' => match e with
      | .exit id => (match hp : popExit id k with
        | some k' => xt C Q k' σ'
        | none => Q (.exit id) σ')
      | e => Q e σ') n σ
  | Q, .code (.rangeFunc f ps as body) :: k, σ =>
    (∀ r, C.rid = some r → ∃ rr, look r σ.heap = some (.loop rr)) ∧ ∃ g caps, σ.ev f = .fn (.func g) caps ∧
    ACall C.P g (.yld (rangeIn C σ ps as body).1 :: caps) (rangeIn C σ ps as body).2.heap (rangeIn C σ ps as body).2.next (fun _ h' nx' =>
      ∃ r', look (rangeIn C σ ps as body).1 h' = some (.loop r') ∧ r'.st ≠ .busy ∧
      match r'.pend with
      | none => xt C Q k (rangeOut (rangeIn C σ ps as body).2 (rangeIn C σ ps as body).1 r' h' nx')
      | some .ret => Q .ret (rangeOut (rangeIn C σ ps as body).2 (rangeIn C σ ps as body).1 r' h' nx')
      | some (.exit i) => (match hp : popExit i k with
        | some k' => xt C Q k' (rangeOut (rangeIn C σ ps as body).2 (rangeIn C σ ps as body).1 r' h' nx')
        | none => Q (.exit i) (rangeOut (rangeIn C σ ps as body).2 (rangeIn C σ ps as body).1 r' h' nx'))
      | _ => False)
  | Q, .code (.label _) :: k, σ => xt C Q k σ
  | _, .code (.goto _) :: _, _ => False
  | _, .code (.scope _) :: _, _ => False
  | _, .code (.refuse _) :: _, _ => False
termination_by Q todo => tsz todo
decreasing_by
  all_goals simp_wf
  all_goals simp only [tsz, XI.sz, csz, List.length_cons, Array.length_toList]
  all_goals first
    | omega
    | (have := popExit_sz hp; omega)
    | (have := csz_pos c; have := popExit_sz hp; omega)
    | (have := csz_pos body; omega)
    | (have := csz_pos body; have := popExit_sz hp; omega)

/-! ### The machine's side -/

def kq (F : Fence) (P : Program) (Q : Exit → Act → World → Prop) : List XI → Exit → Act → World → Prop
  | [], e => Q e
  | .inB id :: k, e => match e with
    | .exit i => if i = id then kq F P Q k .normal else kq F P Q k (.exit i)
    | e => kq F P Q k e
  | .code c :: k, e => match e with
    | .normal => c.wpIn F 0 P (kq F P Q k)
    | e => kq F P Q k e
  | .ops all l :: k, e => match e with
    | .normal => wpListIn F 0 P all (kq F P Q k) l
    | e => kq F P Q k e

section
variable {F : Fence} {P : Program} {Q : Exit → Act → World → Prop}

theorem kq_exit_some {id : Nat} : ∀ {k k' : List XI}, popExit id k = some k' → kq F P Q k (.exit id) = kq F P Q k' .normal
  | [], k', h => by simp [popExit] at h
  | .inB i :: k, k', h => by
    simp only [popExit] at h
    simp only [kq]
    split at h
    · rename_i e
      cases h
      simp [e]
    · rename_i e
      have : ¬ id = i := fun x => e x.symm
      simp only [this, if_false]
      exact kq_exit_some h
  | .code c :: k, k', h => by simp only [kq]; exact kq_exit_some (by simpa [popExit] using h)
  | .ops a l :: k, k', h => by simp only [kq]; exact kq_exit_some (by simpa [popExit] using h)

theorem kq_exit_none {id : Nat} : ∀ {k : List XI}, popExit id k = none → kq F P Q k (.exit id) = Q (.exit id)
  | [], h => rfl
  | .inB i :: k, h => by
    simp only [popExit] at h
    simp only [kq]
    split at h
    · cases h
    · rename_i e
      have : ¬ id = i := fun x => e x.symm
      simp only [this, if_false]
      exact kq_exit_none h
  | .code c :: k, h => by simp only [kq]; exact kq_exit_none (by simpa [popExit] using h)
  | .ops a l :: k, h => by simp only [kq]; exact kq_exit_none (by simpa [popExit] using h)

theorem kq_other {e : Exit} (h1 : e ≠ .normal) (h2 : ∀ i, e ≠ .exit i) : ∀ {k : List XI}, kq F P Q k e = Q e
  | [] => rfl
  | .inB i :: k => by
    cases e <;> simp only [kq] <;> first | exact kq_other h1 h2 | exact absurd rfl h1 | exact absurd rfl (h2 _)
  | .code c :: k => by
    cases e <;> simp only [kq] <;> first | exact kq_other h1 h2 | exact absurd rfl h1 | exact absurd rfl (h2 _)
  | .ops a l :: k => by
    cases e <;> simp only [kq] <;> first | exact kq_other h1 h2 | exact absurd rfl h1 | exact absurd rfl (h2 _)
end
end Go.Abs
