/- The abstract layer, part N: a frame's state by content; calls; one operation of a region; what is left to do as a row of items. -/
import Derived.Test.YtlmkmmkhfkdagaaAbsM
set_option linter.unusedVariables false
set_option linter.unusedSimpArgs false
namespace Go.Abs
open Go.RowKit

/-- A frame's state. -/
structure AS where
  tmps : Tab AV
  heap : Heap
  next : Nat
  marks : List Nat

def AS.ev (σ : AS) : Operand → AV
  | .tmp t => (look t σ.tmps).getD .any
  | .const v => ofConst v
  | .global _ => .any
  | .func f => .fn (.func f) []

def AS.put (σ : AS) (d : Option Tmp) (v : AV) : AS := match d with
  | some t => { σ with tmps := hc t v σ.tmps }
  | none => σ

structure Ctx where
  P : Program
  nt : Nat
  rid : Option Nat

def below (n : Nat) : Nat → Prop := fun j => j < n

/-- Where a frame began. -/
structure Orig where
  G : Gh
  w : World
  A : Nat → Prop
  h : Heap

/-- The machine's frame is as the abstract one says, of the objects numbered by A. -/
structure OkA (C : Ctx) (O : Orig) (l : Option Nat) (G : Gh) (A : Nat → Prop) (σ : AS) (a : Act) (w : World) : Prop where
  sat : SatH G w A σ.heap
  tmps : ∀ t v, look t σ.tmps = some v → Rel G w A σ.heap v (a.tmps.getD t undef)
  size : a.tmps.size = C.nt
  defers : ∃ bs : List Nat, a.defers = bs.map (fun b => { target := .collected b, args := #[] }) ∧ bs.length = σ.marks.length ∧ ∀ (j id b : Nat), σ.marks[j]? = some id → bs[j]? = some b → Rel G w A σ.heap (.mrk id) (.chan (some b))
  evo : Evo O.G O.w O.A O.h G w A σ.heap
  rnd : ∀ r, C.rid = some r → ∃ l0, l = some l0 ∧ Rel G w A σ.heap (.yld r) (.func (.yield l0) #[] #[])
  nornd : C.rid = none → l = none

abbrev Ok (C : Ctx) (O : Orig) (l : Option Nat) (G : Gh) (σ : AS) (a : Act) (w : World) : Prop := OkA C O l G (below σ.next) σ a w

def Fw (l : Option Nat) : Fence := { Fence.wide with round := l }

theorem OkA.ev {C : Ctx} {O : Orig} {l : Option Nat} {G : Gh} {A : Nat → Prop} {σ : AS} {a : Act} {w : World} (k : OkA C O l G A σ a w) (x : Operand) : Rel G w A σ.heap (σ.ev x) (a.eval x) := by
  cases x with
  | tmp t =>
    simp only [AS.ev, Act.eval]
    cases hl : look t σ.tmps with
    | none => exact .any ..
    | some v => exact k.tmps t v hl
  | const v => exact rel_ofConst v
  | global g => exact .any ..
  | func f => exact .fn _ _ (.func f) [] [] rfl (by simp)

/-- The state behind an operation. -/
theorem OkA.step {C : Ctx} {O : Orig} {l : Option Nat} {G : Gh} {A : Nat → Prop} {σ : AS} {a : Act} {w : World} (k : OkA C O l G A σ a w) {G' : Gh} {w' : World} {h' : Heap} {A' : Nat → Prop} {d : Option Tmp} {v : AV} {x : Value}
    (hd : ∀ t, d = some t → t < C.nt) (S : SatH G' w' A' h') (E : Evo G w A σ.heap G' w' A' h') (r : Rel G' w' A' h' v x) (nx' : Nat) :
    OkA C O l G' A' { (σ.put d v) with heap := h', next := nx' } (a.put d x) w' := by
  refine ⟨S, ?_, ?_, ?_, k.evo.trans E, fun r hr => ?_, k.nornd⟩
  · intro t u hu
    cases d with
    | none => exact E.rel _ _ (k.tmps t u hu)
    | some d =>
      have hdn := hd d rfl
      simp only [AS.put, look_hc] at hu
      by_cases e : d = t
      · subst e
        simp only [if_true, Option.some.injEq] at hu
        subst hu
        have : (a.put (some d) x).tmps.getD d undef = x := by
          simp [Act.put, Array.getD, k.size, hdn]
        rw [this]
        exact r
      · simp only [e, if_false] at hu
        have : (a.put (some d) x).tmps.getD t undef = a.tmps.getD t undef := by
          simp only [Act.put, Array.getD_eq_getD_getElem?]
          rw [Array.getElem?_setIfInBounds_ne e]
        rw [this]
        exact E.rel _ _ (k.tmps t u hu)
  · cases d <;> simp [Act.put, k.size]
  · have h1 : (a.put d x).defers = a.defers := by cases d <;> rfl
    have h2 : (σ.put d v).marks = σ.marks := by cases d <;> rfl
    obtain ⟨bs, h3, h4, h5⟩ := k.defers
    refine ⟨bs, by rw [h1, h3], by simpa [h2] using h4, fun j id b hj hb => E.rel _ _ (h5 j id b (by simpa [h2] using hj) hb)⟩
  · obtain ⟨l0, h1, h2⟩ := k.rnd r hr
    exact ⟨l0, h1, E.rel _ _ h2⟩

theorem OkA.put {C : Ctx} {O : Orig} {l : Option Nat} {G : Gh} {A : Nat → Prop} {σ : AS} {a : Act} {w : World} (k : OkA C O l G A σ a w) {d : Option Tmp} {v : AV} {x : Value} (hd : ∀ t, d = some t → t < C.nt) (r : Rel G w A σ.heap v x) : OkA C O l G A (σ.put d v) (a.put d x) w := by
  have := k.step (d := d) (v := v) (x := x) hd k.sat (Evo.refl ..) r σ.next
  cases d <;> exact this

/-! ### Calls -/

/-- The call of a function value. -/
def CallV (P : Program) (x : Value) (vs : Array Value) (w : World) (R : Ending → World → Prop) : Prop :=
  (∃ f as, (do let d ← Deferred.ofValue x vs; invoke d.target d.args : Sem Next).run P w = .ok (.enter f as) w ∧ Calls P f as w R) ∨
  (∃ l f tmps as body, (do let d ← Deferred.ofValue x vs; invoke d.target d.args : Sem Next).run P w = .ok (.round l f tmps as body) w ∧ RoundIn Fence.wide 0 P l f tmps as body w R)

/-- What a call leaves. -/
def Left (G : Gh) (w : World) (h : Heap) (nx : Nat) (K : AV → Heap → Nat → Prop) (e : Ending) (w' : World) : Prop :=
  ∃ v r h' nx' G', e = .returned v ∧ K r h' nx' ∧ SatH G' w' (below nx') h' ∧ Evo G w (below nx) h G' w' (below nx') h' ∧ Rel G' w' (below nx') h' r v

def callable (P : Program) (f : FuncId) : Bool := match P.funcs[f]? with
  | some fn => fn.name != "runtime.NumGoroutine" && fn.body.isSome
  | none => false

/-- A call of a function, by content. -/
def ACall (P : Program) (f : FuncId) (args : List AV) (h : Heap) (nx : Nat) (K : AV → Heap → Nat → Prop) : Prop :=
  callable P f = true ∧ ∀ G w vs, SatH G w (below nx) h → Rels G w (below nx) h args vs → Calls P f vs.toArray w (Left G w h nx K)

/-- A call of a function value, by content. -/
def ACallV (P : Program) (fv : AV) (args : List AV) (h : Heap) (nx : Nat) (K : AV → Heap → Nat → Prop) : Prop :=
  ∀ G w x vs, SatH G w (below nx) h → Rel G w (below nx) h fv x → Rels G w (below nx) h args vs → CallV P x vs.toArray w (Left G w h nx K)

theorem Left.mono {G : Gh} {w : World} {h : Heap} {nx : Nat} {K K' : AV → Heap → Nat → Prop} (hk : ∀ r h nx, K r h nx → K' r h nx) {e : Ending} {w' : World} (hl : Left G w h nx K e w') : Left G w h nx K' e w' := by
  obtain ⟨v, r, h', nx', G', h1, h2, h3⟩ := hl
  exact ⟨v, r, h', nx', G', h1, hk _ _ _ h2, h3⟩

theorem CallV.mono {P : Program} {x : Value} {vs : Array Value} {w : World} {R R' : Ending → World → Prop} (h : CallV P x vs w R) (hr : ∀ e w', R e w' → R' e w') : CallV P x vs w R' := by
  rcases h with ⟨f, as, h1, h2⟩ | ⟨l, f, tmps, as, body, h1, h2⟩
  · exact .inl ⟨f, as, h1, h2.mono hr⟩
  · exact .inr ⟨l, f, tmps, as, body, h1, h2.mono hr⟩

theorem ACall.mono {P : Program} {f : FuncId} {args : List AV} {h : Heap} {nx : Nat} {K K' : AV → Heap → Nat → Prop} (c : ACall P f args h nx K) (hk : ∀ r h nx, K r h nx → K' r h nx) : ACall P f args h nx K' :=
  ⟨c.1, fun G w vs S r => (c.2 G w vs S r).mono fun e w' hl => hl.mono hk⟩

theorem ACallV.mono {P : Program} {f : AV} {args : List AV} {h : Heap} {nx : Nat} {K K' : AV → Heap → Nat → Prop} (c : ACallV P f args h nx K) (hk : ∀ r h nx, K r h nx → K' r h nx) : ACallV P f args h nx K' :=
  fun G w x vs S r rs => (c G w x vs S r rs).mono fun e w' hl => hl.mono hk

theorem run_callFunc {P : Program} {f : FuncId} (hc : callable P f = true) (as : Array Value) (w : World) : (callFunc f as).run P w = .ok (.enter f as) w := by
  unfold callable at hc
  split at hc
  · rename_i fn hf
    simp only [Bool.and_eq_true, bne_iff_ne, ne_eq] at hc
    obtain ⟨h1, h2⟩ := hc
    have h3 : fn.body.isNone = false := by cases hb : fn.body <;> simp_all
    simp only [callFunc, Sem.run_bind, run_program, Result.andThen_ok, hf, beq_iff_eq, h1, if_false, h3, Bool.false_eq_true, Sem.run_pure]
  · cases hc

theorem ACallV.of_fn {P : Program} {f : FuncId} {caps args : List AV} {h : Heap} {nx : Nat} {K : AV → Heap → Nat → Prop} (c : ACall P f (args ++ caps) h nx K) : ACallV P (.fn (.func f) caps) args h nx K := by
  intro G w x vs S r rs
  obtain ⟨cs, rfl, hcs⟩ := r.fn_inv
  refine .inl ⟨f, (vs ++ cs).toArray, ?_, c.2 G w (vs ++ cs) S (rs.append hcs)⟩
  simp [Deferred.ofValue, invoke, run_callFunc c.1]

/-! ### One operation of a region -/

section
variable {C : Ctx} {O : Orig} {l : Option Nat} {G : Gh} {σ : AS} {a : Act} {w : World}

theorem about_wide {o : Oper} : ∀ f, o.about C.P w a.eval = some f → (Fw l).fn f := fun _ _ => trivial

theorem opA_notDefer {P : Program} {h : Heap} {id : Nat} {ρ : Operand → AV} {op : Op} {r : AV × Heap × Bool} (hv : opA P h id ρ op = some r) : ∀ c, op ≠ .defer c := by
  intro c e
  subst e
  simp [opA] at hv

theorem below_succ (n : Nat) (fr : Bool) : ∀ j, below (if fr then n + 1 else n) j ↔ below n j ∨ (fr = true ∧ j = n) := by
  intro j
  unfold below
  cases fr <;> simp <;> omega

/-- The state behind an operation that is no call. -/
def AS.next' (σ : AS) (d : Option Tmp) (r : AV × Heap × Bool) : AS := { (σ.put d r.1) with heap := r.2.1, next := if r.2.2 then σ.next + 1 else σ.next }
end
end Go.Abs
