/- The abstract layer: calls, freezing, code by content, open orders. -/
import Derived.Test.YtlmkmmkhfkdagaaKb
import Derived.TacticsIn
import Derived.OrdersIn
import Derived.Still

/- The abstract layer, part N: a frame's state by content; calls; one operation of a region; what is left to do as a row of items. -/
set_option linter.unusedVariables false
set_option linter.unusedSimpArgs false
namespace Go.Abs
open Go.RowKit

/-- A frame's state. -/
structure AS where
  tmps : Tab AV
  heap : Heap
  next : Nat
  marks : List Nat

def AS.ev (σ : AS) : Operand → AV
  | .tmp t => (look t σ.tmps).getD .any
  | .const v => ofConst v
  | .global _ => .any
  | .func f => .fn (.func f) []

def AS.put (σ : AS) (d : Option Tmp) (v : AV) : AS := match d with
  | some t => { σ with tmps := hc t v σ.tmps }
  | none => σ

structure Ctx where
  P : Program
  nt : Nat
  rid : Option Nat

def below (n : Nat) : Nat → Prop := fun j => j < n

/-- Where a frame began. -/
structure Orig where
  G : Gh
  w : World
  A : Nat → Prop
  h : Heap

/-- The machine's frame is as the abstract one says, of the objects numbered by A. -/
structure OkA (C : Ctx) (O : Orig) (l : Option Nat) (G : Gh) (A : Nat → Prop) (σ : AS) (a : Act) (w : World) : Prop where
  sat : SatH G w A σ.heap
  tmps : ∀ t v, look t σ.tmps = some v → Rel G w A σ.heap v (a.tmps.getD t undef)
  size : a.tmps.size = C.nt
  defers : ∃ bs : List Nat, a.defers = bs.map (fun b => { target := .collected b, args := #[] }) ∧ bs.length = σ.marks.length ∧ ∀ (j id b : Nat), σ.marks[j]? = some id → bs[j]? = some b → Rel G w A σ.heap (.mrk id) (.chan (some b))
  evo : Evo O.G O.w O.A O.h G w A σ.heap
  rnd : ∀ r, C.rid = some r → ∃ l0, l = some l0 ∧ Rel G w A σ.heap (.yld r) (.func (.yield l0) #[] #[])
  nornd : C.rid = none → l = none

abbrev Ok (C : Ctx) (O : Orig) (l : Option Nat) (G : Gh) (σ : AS) (a : Act) (w : World) : Prop := OkA C O l G (below σ.next) σ a w

def Fw (l : Option Nat) : Fence := { Fence.wide with round := l }

theorem OkA.ev {C : Ctx} {O : Orig} {l : Option Nat} {G : Gh} {A : Nat → Prop} {σ : AS} {a : Act} {w : World} (k : OkA C O l G A σ a w) (x : Operand) : Rel G w A σ.heap (σ.ev x) (a.eval x) := by
  cases x with
  | tmp t =>
    simp only [AS.ev, Act.eval]
    cases hl : look t σ.tmps with
    | none => exact .any ..
    | some v => exact k.tmps t v hl
  | const v => exact rel_ofConst v
  | global g => exact .any ..
  | func f => exact .fn _ _ (.func f) [] [] rfl (by simp)

/-- The state behind an operation. -/
theorem OkA.step {C : Ctx} {O : Orig} {l : Option Nat} {G : Gh} {A : Nat → Prop} {σ : AS} {a : Act} {w : World} (k : OkA C O l G A σ a w) {G' : Gh} {w' : World} {h' : Heap} {A' : Nat → Prop} {d : Option Tmp} {v : AV} {x : Value}
    (hd : ∀ t, d = some t → t < C.nt) (S : SatH G' w' A' h') (E : Evo G w A σ.heap G' w' A' h') (r : Rel G' w' A' h' v x) (nx' : Nat) :
    OkA C O l G' A' { (σ.put d v) with heap := h', next := nx' } (a.put d x) w' := by
  refine ⟨S, ?_, ?_, ?_, k.evo.trans E, fun r hr => ?_, k.nornd⟩
  · intro t u hu
    cases d with
    | none => exact E.rel _ _ (k.tmps t u hu)
    | some d =>
      have hdn := hd d rfl
      simp only [AS.put, look_hc] at hu
      by_cases e : d = t
      · subst e
        simp only [if_true, Option.some.injEq] at hu
        subst hu
        have : (a.put (some d) x).tmps.getD d undef = x := by
          simp [Act.put, Array.getD, k.size, hdn]
        rw [this]
        exact r
      · simp only [e, if_false] at hu
        have : (a.put (some d) x).tmps.getD t undef = a.tmps.getD t undef := by
          simp only [Act.put, Array.getD_eq_getD_getElem?]
          rw [Array.getElem?_setIfInBounds_ne e]
        rw [this]
        exact E.rel _ _ (k.tmps t u hu)
  · cases d <;> simp [Act.put, k.size]
  · have h1 : (a.put d x).defers = a.defers := by cases d <;> rfl
    have h2 : (σ.put d v).marks = σ.marks := by cases d <;> rfl
    obtain ⟨bs, h3, h4, h5⟩ := k.defers
    refine ⟨bs, by rw [h1, h3], by simpa [h2] using h4, fun j id b hj hb => E.rel _ _ (h5 j id b (by simpa [h2] using hj) hb)⟩
  · obtain ⟨l0, h1, h2⟩ := k.rnd r hr
    exact ⟨l0, h1, E.rel _ _ h2⟩

theorem OkA.put {C : Ctx} {O : Orig} {l : Option Nat} {G : Gh} {A : Nat → Prop} {σ : AS} {a : Act} {w : World} (k : OkA C O l G A σ a w) {d : Option Tmp} {v : AV} {x : Value} (hd : ∀ t, d = some t → t < C.nt) (r : Rel G w A σ.heap v x) : OkA C O l G A (σ.put d v) (a.put d x) w := by
  have := k.step (d := d) (v := v) (x := x) hd k.sat (Evo.refl ..) r σ.next
  cases d <;> exact this

/-! ### Calls -/

/-- The call of a function value. -/
def CallV (P : Program) (x : Value) (vs : Array Value) (w : World) (R : Ending → World → Prop) : Prop :=
  (∃ f as, (do let d ← Deferred.ofValue x vs; invoke d.target d.args : Sem Next).run P w = .ok (.enter f as) w ∧ Calls P f as w R) ∨
  (∃ l f tmps as body, (do let d ← Deferred.ofValue x vs; invoke d.target d.args : Sem Next).run P w = .ok (.round l f tmps as body) w ∧ RoundIn Fence.wide 0 P l f tmps as body w R)

/-- What a call leaves. -/
def Left (G : Gh) (w : World) (h : Heap) (nx : Nat) (K : AV → Heap → Nat → Prop) (e : Ending) (w' : World) : Prop :=
  ∃ v r h' nx' G', e = .returned v ∧ K r h' nx' ∧ SatH G' w' (below nx') h' ∧ Evo G w (below nx) h G' w' (below nx') h' ∧ Rel G' w' (below nx') h' r v

def callable (P : Program) (f : FuncId) : Bool := match P.funcs[f]? with
  | some fn => fn.name != "runtime.NumGoroutine" && fn.body.isSome
  | none => false

/-- A call of a function, by content. -/
def ACall (P : Program) (f : FuncId) (args : List AV) (h : Heap) (nx : Nat) (K : AV → Heap → Nat → Prop) : Prop :=
  callable P f = true ∧ ∀ G w vs, SatH G w (below nx) h → Rels G w (below nx) h args vs → Calls P f vs.toArray w (Left G w h nx K)

/-- A call of a function value, by content. -/
def ACallV (P : Program) (fv : AV) (args : List AV) (h : Heap) (nx : Nat) (K : AV → Heap → Nat → Prop) : Prop :=
  ∀ G w x vs, SatH G w (below nx) h → Rel G w (below nx) h fv x → Rels G w (below nx) h args vs → CallV P x vs.toArray w (Left G w h nx K)

theorem Left.mono {G : Gh} {w : World} {h : Heap} {nx : Nat} {K K' : AV → Heap → Nat → Prop} (hk : ∀ r h nx, K r h nx → K' r h nx) {e : Ending} {w' : World} (hl : Left G w h nx K e w') : Left G w h nx K' e w' := by
  obtain ⟨v, r, h', nx', G', h1, h2, h3⟩ := hl
  exact ⟨v, r, h', nx', G', h1, hk _ _ _ h2, h3⟩

theorem CallV.mono {P : Program} {x : Value} {vs : Array Value} {w : World} {R R' : Ending → World → Prop} (h : CallV P x vs w R) (hr : ∀ e w', R e w' → R' e w') : CallV P x vs w R' := by
  rcases h with ⟨f, as, h1, h2⟩ | ⟨l, f, tmps, as, body, h1, h2⟩
  · exact .inl ⟨f, as, h1, h2.mono hr⟩
  · exact .inr ⟨l, f, tmps, as, body, h1, h2.mono hr⟩

theorem ACall.mono {P : Program} {f : FuncId} {args : List AV} {h : Heap} {nx : Nat} {K K' : AV → Heap → Nat → Prop} (c : ACall P f args h nx K) (hk : ∀ r h nx, K r h nx → K' r h nx) : ACall P f args h nx K' :=
  ⟨c.1, fun G w vs S r => (c.2 G w vs S r).mono fun e w' hl => hl.mono hk⟩

theorem ACallV.mono {P : Program} {f : AV} {args : List AV} {h : Heap} {nx : Nat} {K K' : AV → Heap → Nat → Prop} (c : ACallV P f args h nx K) (hk : ∀ r h nx, K r h nx → K' r h nx) : ACallV P f args h nx K' :=
  fun G w x vs S r rs => (c G w x vs S r rs).mono fun e w' hl => hl.mono hk

theorem run_callFunc {P : Program} {f : FuncId} (hc : callable P f = true) (as : Array Value) (w : World) : (callFunc f as).run P w = .ok (.enter f as) w := by
  unfold callable at hc
  split at hc
  · rename_i fn hf
    simp only [Bool.and_eq_true, bne_iff_ne, ne_eq] at hc
    obtain ⟨h1, h2⟩ := hc
    have h3 : fn.body.isNone = false := by cases hb : fn.body <;> simp_all
    simp only [callFunc, Sem.run_bind, run_program, Result.andThen_ok, hf, beq_iff_eq, h1, if_false, h3, Bool.false_eq_true, Sem.run_pure]
  · cases hc

theorem ACallV.of_fn {P : Program} {f : FuncId} {caps args : List AV} {h : Heap} {nx : Nat} {K : AV → Heap → Nat → Prop} (c : ACall P f (args ++ caps) h nx K) : ACallV P (.fn (.func f) caps) args h nx K := by
  intro G w x vs S r rs
  obtain ⟨cs, rfl, hcs⟩ := r.fn_inv
  refine .inl ⟨f, (vs ++ cs).toArray, ?_, c.2 G w (vs ++ cs) S (rs.append hcs)⟩
  simp [Deferred.ofValue, invoke, run_callFunc c.1]

/-! ### One operation of a region -/

section
variable {C : Ctx} {O : Orig} {l : Option Nat} {G : Gh} {σ : AS} {a : Act} {w : World}

theorem about_wide {o : Oper} : ∀ f, o.about C.P w a.eval = some f → (Fw l).fn f := fun _ _ => trivial

theorem opA_notDefer {P : Program} {h : Heap} {id : Nat} {ρ : Operand → AV} {op : Op} {r : AV × Heap × Bool} (hv : opA P h id ρ op = some r) : ∀ c, op ≠ .defer c := by
  intro c e
  subst e
  simp [opA] at hv

theorem below_succ (n : Nat) (fr : Bool) : ∀ j, below (if fr then n + 1 else n) j ↔ below n j ∨ (fr = true ∧ j = n) := by
  intro j
  unfold below
  cases fr <;> simp <;> omega

/-- The state behind an operation that is no call. -/
def AS.next' (σ : AS) (d : Option Tmp) (r : AV × Heap × Bool) : AS := { (σ.put d r.1) with heap := r.2.1, next := if r.2.2 then σ.next + 1 else σ.next }
end
end Go.Abs

/- The abstract layer, part R: a function's contract out of its body; what a call has made and hands back, frozen. -/
set_option linter.unusedVariables false
set_option linter.unusedSimpArgs false
namespace Go.Abs
open Go.RowKit

/-- Does a value lead to no object? -/
def AV.noRef : AV → Bool
  | .any | .sc _ | .emp | .lst _ _ | .cptr _ => true
  | _ => false

/-- v', what v is once the objects of the heap h are frozen. -/
inductive Fz (p : Nat → Prop) (h : Heap) : AV → AV → Prop
  | same {v : AV} (hn : v.noRef = true) : Fz p h v v
  | emp (sz : Nat) : Fz p h .emp (.lst sz [])
  | any (v : AV) : Fz p h v .any
  | own {id g lo sz : Nat} {L L' : List (List AV)} (hid : p id) (hl : look id h = some (.arr g sz L)) (hn : ∀ cs ∈ L, ∀ c ∈ cs, c.noRef = true) (he : L.drop lo = L') : Fz p h (.own id g lo) (.lst sz L')
  | low_own {id g lo : Nat} (hid : ¬ p id) : Fz p h (.own id g lo) (.own id g lo)
  | low_ptr {id off : Nat} (hid : ¬ p id) : Fz p h (.ptr id off) (.ptr id off)
  | low_mp {id : Nat} (hid : ¬ p id) : Fz p h (.mp id) (.mp id)
  | agg {cs ds : List AV} (hl : cs.length = ds.length) (hf : ∀ (j : Nat) (c d : AV), cs[j]? = some c → ds[j]? = some d → Fz p h c d) : Fz p h (.agg cs) (.agg ds)
  | tup {cs ds : List AV} (hl : cs.length = ds.length) (hf : ∀ (j : Nat) (c d : AV), cs[j]? = some c → ds[j]? = some d → Fz p h c d) : Fz p h (.tup cs) (.tup ds)
  | fn {f : Fn} {cs ds : List AV} (hl : cs.length = ds.length) (hf : ∀ (j : Nat) (c d : AV), cs[j]? = some c → ds[j]? = some d → Fz p h c d) : Fz p h (.fn f cs) (.fn f ds)

/-- Row by row. -/
def FzL (p : Nat → Prop) (h : Heap) (cs ds : List AV) : Prop := cs.length = ds.length ∧ ∀ (j : Nat) (c d : AV), cs[j]? = some c → ds[j]? = some d → Fz p h c d
theorem FzL.nil (p : Nat → Prop) (h : Heap) : FzL p h [] [] := ⟨rfl, fun j c d hj => by simp at hj⟩
theorem FzL.cons {p : Nat → Prop} {h : Heap} {c d : AV} {cs ds : List AV} (h1 : Fz p h c d) (h2 : FzL p h cs ds) : FzL p h (c :: cs) (d :: ds) :=
  ⟨by simp [h2.1], fun j c' d' hj hd => by
    cases j with
    | zero => simp at hj hd; subst hj; subst hd; exact h1
    | succ j => exact h2.2 j c' d' (by simpa using hj) (by simpa using hd)⟩
theorem Fz.agg' {p : Nat → Prop} {h : Heap} {cs ds : List AV} (h1 : FzL p h cs ds) : Fz p h (.agg cs) (.agg ds) := .agg h1.1 h1.2
theorem Fz.tup' {p : Nat → Prop} {h : Heap} {cs ds : List AV} (h1 : FzL p h cs ds) : Fz p h (.tup cs) (.tup ds) := .tup h1.1 h1.2
theorem Fz.fn' {p : Nat → Prop} {h : Heap} {f : Fn} {cs ds : List AV} (h1 : FzL p h cs ds) : Fz p h (.fn f cs) (.fn f ds) := .fn h1.1 h1.2

section
variable {P : Program} {G : Gh} {w : World} {A : Nat → Prop} {h : Heap}

/-- The ghost, the blocks of some objects frozen. -/
def Gh.frz (G : Gh) (h : Heap) (p : Nat → Prop) : Gh := { G with Z := fun b => G.Z b ∨ ∃ i o a, p i ∧ look i h = some o ∧ G.loc i = some a ∧ a.block = b }

theorem Rel.noRef {v : AV} {x : Value} (r : Rel G w A h v x) (hn : v.noRef = true) {A' : Nat → Prop} {h' : Heap} : Rel G w A' h' v x := by
  cases v with
  | any => exact .any ..
  | sc v => rw [r.sc_inv]; exact .sc ..
  | emp => obtain ⟨a, rfl⟩ := r.emp_inv; exact .emp ..
  | lst sz l =>
    rcases r.lst_inv with ⟨rfl, a, cap, rfl⟩ | ⟨b, off, cap, f, rfl, h1, h2, h3, h4, h5, h6, h7⟩
    · exact .lnil ..
    · exact .lst _ _ sz l b off cap f h1 h2 h3 h4 h5 h6 h7
  | cptr cs =>
    obtain ⟨b, off, f, rfl, h1, h2, h3, h4⟩ := r.cptr_inv
    exact .cptr _ _ cs b off f h1 h2 h3 h4
  | _ => simp [AV.noRef] at hn

/-- The relation where more blocks are frozen. -/
theorem Rel.frz {v : AV} {x : Value} (r : Rel G w A h v x) (p : Nat → Prop) (h0 : Heap) : Rel (G.frz h0 p) w A h v x :=
  r.compat ⟨fun b hb => .inl hb, fun _ _ _ _ h => h, fun _ h => h, fun id _ => by
    cases hl : look id h with
    | none => trivial
    | some o =>
      cases o with
      | box _ => exact rfl
      | map _ => exact rfl
      | loop _ => exact rfl
      | dfr => exact rfl
      | arr g sz L => exact .inr ⟨rfl, rfl, rfl, rfl, rfl⟩⟩

/-- A value, its objects frozen. -/
theorem freezeVal (S : SatH G w A h) {p : Nat → Prop} {h' : Heap} {A' : Nat → Prop} (hA' : ∀ j, A j → ¬ p j → A' j) (hsub : ∀ j o, look j h' = some o → look j h = some o)
    {v v' : AV} (f : Fz p h v v') : ∀ {x : Value}, Rel G w A h v x → Rel (G.frz h p) w A' h' v' x := by
  induction f with
  | same hn => intro x r; exact (r.frz p h).noRef hn
  | emp sz => intro x r; obtain ⟨a, rfl⟩ := r.emp_inv; exact .lnil ..
  | any v => intro x r; exact .any ..
  | @own id g lo sz L L' hpid hl hn he =>
    intro x r
    obtain ⟨_, _, ho⟩ := r.own_inv
    obtain ⟨hlo, hcap, b0, rfl, hb0⟩ := (ho _ _ _ hl).2 rfl
    have hlen : L'.length = L.length - lo := by rw [← he, List.length_drop]
    rcases (S.obj _ _ hl).2 with ⟨rfl, hloc, hc0⟩ | ⟨b, o, T, vs, hloc, hh, h3, h4, h5, h6⟩
    · simp at hlo
      subst hlo
      simp at he
      subst he
      exact .lnil ..
    · by_cases hne : L' = []
      · subst hne
        simp at hlen
        have : L.length - lo = 0 := by omega
        rw [this]
        exact .lnil ..
      · have hlt : lo < L.length := by
          rcases Nat.lt_or_ge lo L.length with q | q
          · exact q
          · exact absurd (by rw [← he]; exact List.drop_eq_nil_of_le q) hne
        have hb := hb0 (by omega)
        rw [hloc] at hb
        simp only [Option.map_some] at hb
        subst hb
        rw [← hlen]
        have hget : ∀ (i : Nat) (cs : List AV), L'[i]? = some cs → L[lo + i]? = some cs := fun i cs hi => by rw [← he, List.getElem?_drop] at hi; exact hi
        have hz : (G.frz h p).Z b := .inr ⟨id, _, ⟨b, o, none⟩, hpid, hl, hloc, rfl⟩
        refine .lst _ _ sz L' b (o + lo * sz) _ (fun i j => vs.getD (o + lo * sz + i * sz + j) undef) hne hz (by omega) (fun i cs hi => h5 _ _ (hget i cs hi)) (fun i cs hi j c hj => ?_) (fun i cs hi j c hj => ?_) (fun i cs hi j c hj => ?_)
        · have hg := hget i cs hi
          have hil : lo + i < L.length := (List.getElem?_eq_some_iff.1 hg).1
          have hjl : j < sz := h5 _ _ hg ▸ (List.getElem?_eq_some_iff.1 hj).1
          have hfit : (lo + i) * sz + sz ≤ G.cap id * sz := by rw [← Nat.succ_mul]; exact Nat.mul_le_mul_right _ (by omega)
          have e : o + lo * sz + i * sz + j = o + (lo + i) * sz + j := by rw [Nat.add_mul]; omega
          have hlt2 : o + lo * sz + i * sz + j < vs.size := by rw [e]; omega
          rw [cell_of_heap hh]
          simp [Array.getD, hlt2]
        · have h7 := (h6 _ cs (hget i cs hi) j c hj).2
          have e : o + lo * sz + i * sz + j = o + (lo + i) * sz + j := by rw [Nat.add_mul]; omega
          rw [e]
          exact h7
        · have h7 := (h6 _ cs (hget i cs hi) j c hj).1
          have e : o + lo * sz + i * sz + j = o + (lo + i) * sz + j := by rw [Nat.add_mul]; omega
          rw [e]
          exact (h7.frz p h).noRef (hn cs (List.mem_of_getElem? (hget i cs hi)) c (List.mem_of_getElem? hj))
  | @low_own id g lo hid =>
    intro x r
    obtain ⟨hA, h1, ho⟩ := r.own_inv
    exact .own _ _ _ _ _ _ (hA' _ hA hid) h1 fun g' sz L hl => ho g' sz L (hsub _ _ hl)
  | @low_ptr id off hid =>
    intro x r
    obtain ⟨hA, h1, ho⟩ := r.ptr_inv
    exact .ptr _ _ _ _ _ (hA' _ hA hid) h1 fun cs hl => ho cs (hsub _ _ hl)
  | @low_mp id hid =>
    intro x r
    obtain ⟨hA, h1, ho⟩ := r.mp_inv
    exact .mp _ _ _ _ (hA' _ hA hid) h1 fun cs hl => ho cs (hsub _ _ hl)
  | @agg cs ds hl hf ih =>
    intro x r
    obtain ⟨vs, rfl, h1, hr⟩ := r.agg_inv
    refine .agg _ _ ds vs (by rw [← hl]; exact hr.1) h1 fun j d hj => ?_
    have hjl : j < cs.length := by rw [hl]; exact (List.getElem?_eq_some_iff.1 hj).1
    have hc := List.getElem?_eq_getElem hjl
    exact ih j _ d hc hj (hr.2 j _ hc)
  | @tup cs ds hl hf ih =>
    intro x r
    obtain ⟨vs, rfl, hr⟩ := r.tup_inv
    refine .tup _ _ ds vs (by rw [← hl]; exact hr.1) fun j d hj => ?_
    have hjl : j < cs.length := by rw [hl]; exact (List.getElem?_eq_some_iff.1 hj).1
    have hc := List.getElem?_eq_getElem hjl
    exact ih j _ d hc hj (hr.2 j _ hc)
  | @fn f cs ds hl hf ih =>
    intro x r
    obtain ⟨vs, rfl, hr⟩ := r.fn_inv
    refine .fn _ _ f ds vs (by rw [← hl]; exact hr.1) fun j d hj => ?_
    have hjl : j < cs.length := by rw [hl]; exact (List.getElem?_eq_some_iff.1 hj).1
    have hc := List.getElem?_eq_getElem hjl
    exact ih j _ d hc hj (hr.2 j _ hc)

/-- A value's numbers are all of A0. -/
inductive Refs (A0 : Nat → Prop) : AV → Prop
  | noRef {v : AV} (h : v.noRef = true) : Refs A0 v
  | own {id g lo : Nat} (h : A0 id) : Refs A0 (.own id g lo)
  | ptr {id off : Nat} (h : A0 id) : Refs A0 (.ptr id off)
  | eptr {id g i off : Nat} (h : A0 id) : Refs A0 (.eptr id g i off)
  | mp {id : Nat} (h : A0 id) : Refs A0 (.mp id)
  | yld {id : Nat} (h : A0 id) : Refs A0 (.yld id)
  | mrk {id : Nat} (h : A0 id) : Refs A0 (.mrk id)
  | agg {cs : List AV} (h : ∀ c ∈ cs, Refs A0 c) : Refs A0 (.agg cs)
  | tup {cs : List AV} (h : ∀ c ∈ cs, Refs A0 c) : Refs A0 (.tup cs)
  | fn {f : Fn} {cs : List AV} (h : ∀ c ∈ cs, Refs A0 c) : Refs A0 (.fn f cs)

theorem Rel.refs {v : AV} {x : Value} (r : Rel G w A h v x) : Refs A v := by
  induction r with
  | any => exact .noRef rfl
  | sc => exact .noRef rfl
  | emp => exact .noRef rfl
  | lnil => exact .noRef rfl
  | lst => exact .noRef rfl
  | cptr => exact .noRef rfl
  | own _ _ _ _ _ _ hid => exact .own hid
  | ptr _ _ _ _ _ hid => exact .ptr hid
  | eptr _ _ _ _ _ _ _ hid => exact .eptr hid
  | mp _ _ _ _ hid => exact .mp hid
  | yld _ _ _ _ hid => exact .yld hid
  | mrk _ _ _ _ hid => exact .mrk hid
  | agg _ _ cs vs hl h1 hr ih => exact .agg fun c hc => by obtain ⟨j, hj⟩ := List.getElem?_of_mem hc; exact ih j c hj
  | tup _ _ cs vs hl hr ih => exact .tup fun c hc => by obtain ⟨j, hj⟩ := List.getElem?_of_mem hc; exact ih j c hj
  | fn _ _ f cs vs hl hr ih => exact .fn fun c hc => by obtain ⟨j, hj⟩ := List.getElem?_of_mem hc; exact ih j c hj

/-- A value whose numbers are all of A0 holds where only those are looked at. -/
theorem Rel.restrict {A0 A' : Nat → Prop} {h' : Heap} {v : AV} (f : Refs A0 v) (hA' : ∀ j, A0 j → A' j) (hsub : ∀ j o, look j h' = some o → look j h = some o) : ∀ {x : Value}, Rel G w A h v x → Rel G w A' h' v x := by
  induction f with
  | noRef hn => intro x r; exact r.noRef hn
  | own hid => intro x r; obtain ⟨_, h1, ho⟩ := r.own_inv; exact .own _ _ _ _ _ _ (hA' _ hid) h1 fun g' sz L hl => ho g' sz L (hsub _ _ hl)
  | ptr hid => intro x r; obtain ⟨_, h1, ho⟩ := r.ptr_inv; exact .ptr _ _ _ _ _ (hA' _ hid) h1 fun cs hl => ho cs (hsub _ _ hl)
  | eptr hid => intro x r; obtain ⟨_, h1, ho⟩ := r.eptr_inv; exact .eptr _ _ _ _ _ _ _ (hA' _ hid) h1 fun g' sz L hl => ho g' sz L (hsub _ _ hl)
  | mp hid => intro x r; obtain ⟨_, h1, ho⟩ := r.mp_inv; exact .mp _ _ _ _ (hA' _ hid) h1 fun cs hl => ho cs (hsub _ _ hl)
  | yld hid => intro x r; obtain ⟨_, h1, ho⟩ := r.yld_inv; exact .yld _ _ _ _ (hA' _ hid) h1 fun cs hl => ho cs (hsub _ _ hl)
  | mrk hid => intro x r; obtain ⟨_, h1, ho⟩ := r.mrk_inv; exact .mrk _ _ _ _ (hA' _ hid) h1 fun hl => ho (hsub _ _ hl)
  | @agg cs hc ih =>
    intro x r
    obtain ⟨vs, rfl, h1, hr⟩ := r.agg_inv
    exact .agg _ _ cs vs hr.1 h1 fun j c hj => ih c (List.mem_of_getElem? hj) (hr.2 j c hj)
  | @tup cs hc ih =>
    intro x r
    obtain ⟨vs, rfl, hr⟩ := r.tup_inv
    exact .tup _ _ cs vs hr.1 fun j c hj => ih c (List.mem_of_getElem? hj) (hr.2 j c hj)
  | @fn f cs hc ih =>
    intro x r
    obtain ⟨vs, rfl, hr⟩ := r.fn_inv
    exact .fn _ _ f cs vs hr.1 fun j c hj => ih c (List.mem_of_getElem? hj) (hr.2 j c hj)

/-- An object's values' numbers are all of A0. -/
def ORefs (A0 : Nat → Prop) : AObj → Prop
  | .box cs => ∀ c ∈ cs, Refs A0 c
  | .arr _ _ L => ∀ cs ∈ L, ∀ c ∈ cs, Refs A0 c
  | .map m => ∀ p ∈ m, Refs A0 p.2
  | .loop r => ∀ t v, look t r.tmps = some v → Refs A0 v
  | .dfr => True

theorem RelO.refs {id : Nat} {o : AObj} (r : RelO G w A h id o) : ORefs A o := by
  cases o with
  | box cs =>
    obtain ⟨b, T, vs, _, _, h3, _⟩ := r
    intro c hc
    obtain ⟨j, hj⟩ := List.getElem?_of_mem hc
    exact (h3.2 j c hj).refs
  | arr g sz L =>
    rcases r with ⟨rfl, _⟩ | ⟨b, o, T, vs, _, _, _, _, _, h6⟩
    · intro cs hcs; simp at hcs
    · intro cs hcs c hc
      obtain ⟨i, hi⟩ := List.getElem?_of_mem hcs
      obtain ⟨j, hj⟩ := List.getElem?_of_mem hc
      exact (h6 i cs hi j c hj).1.refs
  | map m =>
    obtain ⟨b, es, clock, _, _, _, h4⟩ := r
    intro p hp
    obtain ⟨i, hi⟩ := List.getElem?_of_mem hp
    obtain ⟨e, _, _, h7⟩ := h4 i p.1 p.2 hi
    exact h7.refs
  | loop r0 =>
    obtain ⟨b, tv, d, fn, _, _, _, h4⟩ := r
    intro t v ht
    exact (h4 t v ht).refs
  | dfr => trivial

theorem RelO.restrict {A0 A' : Nat → Prop} {h' : Heap} {id : Nat} {o : AObj} (f : ORefs A0 o) (hA' : ∀ j, A0 j → A' j) (hsub : ∀ j o, look j h' = some o → look j h = some o) (r : RelO G w A h id o) : RelO G w A' h' id o := by
  cases o with
  | box cs =>
    obtain ⟨b, T, vs, h1, h2, h3, h4⟩ := r
    exact ⟨b, T, vs, h1, h2, ⟨h3.1, fun j c hj => Rel.restrict (f c (List.mem_of_getElem? hj)) hA' hsub (h3.2 j c hj)⟩, h4⟩
  | arr g sz L =>
    rcases r with h1 | ⟨b, o, T, vs, h1, h2, h3, h4, h5, h6⟩
    · exact .inl h1
    · exact .inr ⟨b, o, T, vs, h1, h2, h3, h4, h5, fun i cs hi j c hj => ⟨Rel.restrict (f cs (List.mem_of_getElem? hi) c (List.mem_of_getElem? hj)) hA' hsub (h6 i cs hi j c hj).1, (h6 i cs hi j c hj).2⟩⟩
  | map m =>
    obtain ⟨b, es, clock, h1, h2, h3, h4⟩ := r
    exact ⟨b, es, clock, h1, h2, h3, fun i k v hi => let ⟨e, h5, h6, h7⟩ := h4 i k v hi; ⟨e, h5, h6, Rel.restrict (f (k, v) (List.mem_of_getElem? hi)) hA' hsub h7⟩⟩
  | loop r0 =>
    obtain ⟨b, tv, d, fn, h1, h2, h3, h4⟩ := r
    exact ⟨b, tv, d, fn, h1, h2, h3, fun t v ht => Rel.restrict (f t v ht) hA' hsub (h4 t v ht)⟩
  | dfr => exact r

theorem RelO.frz {id : Nat} {o : AObj} (r : RelO G w A h id o) (p : Nat → Prop) (h0 : Heap) : RelO (G.frz h0 p) w A h id o := by
  cases o with
  | box cs =>
    obtain ⟨b, T, vs, h1, h2, h3, h4⟩ := r
    exact ⟨b, T, vs, h1, h2, ⟨h3.1, fun j c hj => (h3.2 j c hj).frz p h0⟩, h4⟩
  | arr g sz L =>
    rcases r with h1 | ⟨b, o, T, vs, h1, h2, h3, h4, h5, h6⟩
    · exact .inl h1
    · exact .inr ⟨b, o, T, vs, h1, h2, h3, h4, h5, fun i cs hi j c hj => ⟨(h6 i cs hi j c hj).1.frz p h0, (h6 i cs hi j c hj).2⟩⟩
  | map m =>
    obtain ⟨b, es, clock, h1, h2, h3, h4⟩ := r
    exact ⟨b, es, clock, h1, h2, h3, fun i k v hi => let ⟨e, h5, h6, h7⟩ := h4 i k v hi; ⟨e, h5, h6, h7.frz p h0⟩⟩
  | loop r0 =>
    obtain ⟨b, tv, d, fn, h1, h2, h3, h4⟩ := r
    exact ⟨b, tv, d, fn, h1, h2, h3, fun t v ht => (h4 t v ht).frz p h0⟩
  | dfr => exact r

/-- The heap, some objects frozen, of the others those that are kept. -/
theorem freezeHeap (S : SatH G w A h) {p : Nat → Prop} {h' : Heap} {A' : Nat → Prop} (hsub : ∀ j o, look j h' = some o → look j h = some o) (hp : ∀ j o, look j h' = some o → ¬ p j)
    (hA' : ∀ j o, look j h' = some o → A' j) (hr : ∀ j o, look j h' = some o → ORefs A' o) : SatH (G.frz h p) w A' h' := by
  refine ⟨fun j o hj => ⟨hA' j o hj, ?_⟩, fun i j oi oj a b hi hj => S.inj i j oi oj a b (hsub _ _ hi) (hsub _ _ hj), fun i o a hi ha hz => ?_, fun b hb => ?_⟩
  · exact RelO.restrict (hr j o hj) (fun _ h => h) hsub ((S.obj j o (hsub j o hj)).2.frz p h)
  · rcases hz with hz | ⟨i', o', a', hpi, hl, hloc, hb⟩
    · exact S.zdis i o a (hsub _ _ hi) ha hz
    · have hne : i ≠ i' := fun e => hp i o hi (e ▸ hpi)
      exact S.inj i i' o o' a a' (hsub _ _ hi) hl hne ha hloc hb.symm
  · rcases hb with hb | ⟨i', o', a', hpi, hl, hloc, rfl⟩
    · exact S.zin b hb
    · exact S.blk hl hloc

/-- What a call leaves, where what it made is frozen or let go. -/
theorem left_frozen {G0 : Gh} {w0 : World} {nx0 : Nat} {h0 : Heap} (S0 : SatH G0 w0 (below nx0) h0) {nx : Nat} (S : SatH G w (below nx) h) (E : Evo G0 w0 (below nx0) h0 G w (below nx) h)
    {K : AV → Heap → Nat → Prop} {r r' : AV} {x : Value} (hr : Rel G w (below nx) h r x) {h' : Heap} (hsub : ∀ j o, look j h' = some o → look j h = some o)
    (hold : ∀ j o, look j h' = some o → look j h0 = some o ∨ (j < nx0 ∧ ORefs (below nx0) o)) (hf : Fz (fun i => nx0 ≤ i) h r r') (hK : K r' h' nx0) : Left G0 w0 h0 nx0 K (.returned x) w := by
  have hlt : ∀ j o, look j h' = some o → j < nx0 := fun j o hj => by
    rcases hold j o hj with h1 | h1
    · exact (S0.obj j o h1).1
    · exact h1.1
  have S' : SatH (G.frz h fun i => nx0 ≤ i) w (below nx0) h' := freezeHeap S hsub (fun j o hj => by have := hlt j o hj; omega) (fun j o hj => hlt j o hj) (fun j o hj => by
    rcases hold j o hj with h1 | h1
    · exact (S0.obj j o h1).2.refs
    · exact h1.2)
  refine ⟨x, r', h', nx0, G.frz h fun i => nx0 ≤ i, rfl, hK, S', ?_, freezeVal S (fun j _ hj => by unfold below; omega) hsub hf hr⟩
  refine ⟨E.os, E.tape, E.output, E.size, E.frame, fun b hb => ?_, fun b hb => ?_, fun _ h => h, fun v x hv => ?_⟩
  · obtain ⟨i, o, a, hi, ha, rfl⟩ := hb
    exact E.prov _ ⟨i, o, a, hsub _ _ hi, ha, rfl⟩
  · rcases hb with hb | ⟨i, o, a, _, hl, hloc, rfl⟩
    · exact E.zprov b hb
    · rcases E.prov _ ⟨i, o, a, hl, hloc, rfl⟩ with h1 | h1
      · exact .inr (.inl h1)
      · exact .inr (.inr h1)
  · exact Rel.restrict hv.refs (fun _ h => h) hsub ((E.rel v x hv).frz _ _)
end
end Go.Abs

/- The abstract layer, part P: code, by content: what must be shown, and that the machine then does it. -/
set_option linter.unusedVariables false
set_option linter.unusedSimpArgs false
namespace Go.Abs
open Go.RowKit

inductive XI where
  | code (c : Code)
  | ops (all : Array Oper) (l : List Oper)
  | inB (id : Nat)

def popExit (id : Nat) : List XI → Option (List XI)
  | [] => none
  | .inB i :: k => if i = id then some k else popExit id k
  | _ :: k => popExit id k

def csz : Code → Nat
  | .seq a b => csz a + csz b + 1
  | .cond _ a b => csz a + csz b + 1
  | .block _ c => csz c + 3
  | .loop c => csz c + 1
  | .region _ ops _ => ops.size + 2
  | .rangeFunc _ _ a b => csz a + csz b + 1
  | .scope b => csz b + 1
  | _ => 1

def XI.sz : XI → Nat
  | .code c => csz c
  | .ops _ l => l.length + 1
  | .inB _ => 1

def tsz : List XI → Nat
  | [] => 0
  | x :: k => x.sz + tsz k

theorem csz_pos (c : Code) : 1 ≤ csz c := by cases c <;> simp [csz]

theorem popExit_sz {id : Nat} : ∀ {k k' : List XI}, popExit id k = some k' → tsz k' ≤ tsz k
  | [], k', h => by simp [popExit] at h
  | .inB i :: k, k', h => by
    simp only [popExit] at h
    split at h
    · cases h; simp only [tsz]; omega
    · have := popExit_sz h; simp only [tsz]; omega
  | .code c :: k, k', h => by have := popExit_sz (k := k) (by simpa [popExit] using h); simp only [tsz]; omega
  | .ops a l :: k, k', h => by have := popExit_sz (k := k) (by simpa [popExit] using h); simp only [tsz]; omega

def callOf : Op → Option (Operand × List Operand)
  | .call { callee := .value f, args := args, argTypes := _ } => some (f, args.toList)
  | _ => none

/-- A slice held against nil: is it '!=', and which one. -/
def nilCmp (P : Program) : Op → Option (Bool × Operand)
  | .binOp op t x (.const (.slice none 0 0)) _ => match tiOf P t with
    | some ti => if ti.elem.isSome then (match op with | .eql => some (false, x) | .neq => some (true, x) | _ => none) else none
    | none => none
  | _ => none

/-- A guard's value. -/
def gv (all : Array Oper) (σ : AS) (j : Nat) : AV := match (all[j]?).bind (·.dst) with
  | some d => σ.ev (.tmp d)
  | none => .any

/-- Is an operation carried out, by its guard? A guard that was itself passed over bars it. -/
def gdOk (v : AV) (want t : Bool) : Prop := (∃ b, v = .sc (.bool b) ∧ t = (b == want)) ∨ (v = .sc undef ∧ t = false)

/-- Rounds of a loop. -/
def XLoopN (body : (Exit → AS → Prop) → AS → Prop) (Kq : Exit → AS → Prop) : Nat → AS → Prop
  | 0, _ => False
  | n + 1, σ => body (fun e σ' => match e with
    | .normal => XLoopN body Kq n σ'
    | e => Kq e σ') σ

/-- The record of a loop over a function, as it begins. -/
def loopRec (C : Ctx) (σ : AS) (params : Array Tmp) (assign body : Code) : ALoop :=
  { st := .ready, pend := none, tmps := σ.tmps, nt := C.nt, params, assign, body }

/-- The state in which the function that is ranged over is called, and the loop's number. -/
def rangeIn (C : Ctx) (σ : AS) (params : Array Tmp) (assign body : Code) : Nat × AS := match C.rid with
  | none => (σ.next + 1, { σ with heap := hc (σ.next + 1) (.loop (loopRec C σ params assign body)) (hc σ.next .dfr σ.heap), next := σ.next + 2, marks := σ.next :: σ.marks })
  | some _ => (σ.next, { σ with heap := hc σ.next (.loop (loopRec C σ params assign body)) σ.heap, next := σ.next + 1 })

/-- The state behind the loop. -/
def rangeOut (σ1 : AS) (lid : Nat) (r : ALoop) (h : Heap) (nx : Nat) : AS := { σ1 with heap := upd lid (.loop { r with st := .exhausted }) h, next := nx }

/-- The objects that a value leads to, in one step or many. -/
def Reach (h : Heap) (v : AV) (k : Nat) : Prop := ∀ A : Nat → Prop, Refs A v → (∀ j o, A j → look j h = some o → ORefs A o) → A k

/-- A call that leaves the heap alone wherever it is made, as long as the objects to which its operands lead are there. -/
def PureCall (P : Program) (h : Heap) (f : AV) (args : List AV) (r : AV) : Prop :=
  Refs (fun _ => False) r ∧ ∀ h' nx K', (∀ k, (Reach h f k ∨ ∃ a ∈ args, Reach h a k) → look k h' = look k h) → K' r h' nx → ACallV P f args h' nx K'

/-- Classes of objects, and for each operation the class of its objects (0: not told). -/
structure Loc where
  cl : Nat → Nat
  loc : List Nat
  frz : List Bool

def L0 : Loc := ⟨fun _ => 0, [], []⟩

/-- A slice that is built, frozen at once. -/
def frzA (P : Program) (t : TypeId) (len : Nat) (parts : List (Nat × AV)) : Option AV :=
  match tiOf P t with
  | none => none
  | some ti => match ti.elem with
    | none => none
    | some e => match tiOf P e with
      | none => none
      | some te => match rowsA te.size 0 parts with
        | none => none
        | some rows => if te.zeroOk ∧ rows.length = len ∧ len * te.size ≤ 16777216 ∧ rows.all (fun cs => cs.all AV.noRef) = true then some (.lst te.size rows) else none

/-- An operation there: what is built may be frozen at once. -/
def opD (fl : Bool) (P : Program) (h : Heap) (id : Nat) (ρ : Operand → AV) (op : Op) : Option (AV × Heap × Bool) := match fl with
  | false => opA P h id ρ op
  | true => match op with
    | .buildSlice t len parts => (frzA P t len (parts.toList.map fun p => (p.1, ρ p.2))).map fun v => (v, h, false)
    | _ => none

/-- The object that a value leads to. -/
def topId : AV → Option Nat
  | .own id _ _ => some id
  | .ptr id _ => some id
  | .eptr id _ _ _ => some id
  | .mp id => some id
  | _ => none

def topOk (cl : Nat → Nat) (c : Nat) (v : AV) : Prop := ∀ k, topId v = some k → cl k = c

/-- An operation's objects are of its class. -/
def locOk (cl : Nat → Nat) (c : Nat) (o : Oper) (σ : AS) : Prop := c = 0 ∨ (callOf o.op = none ∧ ∀ x ∈ o.op.operands, topOk cl c (σ.ev x))

/-- A region whose order is open, walked in the order of the text. -/
def XD (C : Ctx) (all : Array Oper) (L : Loc) (base : Nat) : Nat → List Oper → AS → (AS → Prop) → Prop
  | _, [], σ, K => K σ
  | i, o :: rest, σ, K =>
    locOk L.cl (L.loc.getD i 0) o σ ∧
    ∃ t : Bool, (match o.guard with | none => t = true | some (j, want) => gdOk (gv all σ j) want t) ∧
    (t = false → XD C all L base (i + 1) rest (σ.put o.dst (.sc undef)) K) ∧
    (t = true → match callOf o.op with
      | some (f, args) => ∃ r, PureCall C.P σ.heap (σ.ev f) (args.map σ.ev) r ∧ XD C all L base (i + 1) rest (σ.put o.dst r) K
      | none => nilCmp C.P o.op = none ∧ ∃ r, opD (L.frz.getD i false) C.P σ.heap (base + i) σ.ev o.op = some r ∧ XD C all L base (i + 1) rest { (σ.put o.dst r.1) with heap := r.2.1 } K)

/-- Does an operation read memory; write it? -/
def opRd : Op → Bool
  | .move _ | .assign _ | .pick .. | .alloc _ | .box .. | .build .. | .buildSlice .. | .unOp .. | .convert .. | .makeInterface .. | .makeFunc .. | .makeMap .. | .field .. | .index .. | .extract .. => false
  | _ => true
def opWr : Op → Bool
  | .store .. | .mapUpdate .. | .insert .. => true
  | .call { callee := .builtin .append, .. } => true
  | _ => false
def clash (a b : Op) : Bool := (opWr a && (opRd b || opWr b)) || (opWr b && (opRd a || opWr a))

/-- Is an operation bound to come ahead of another one? -/
def bef (ops : Array Oper) : Nat → Nat → Nat → Bool
  | 0, _, _ => false
  | n + 1, i, j => match ops[j]? with
    | some oj => oj.after.any fun e => Region.binds .any e && (e.on == i || bef ops n i e.on)
    | none => false

/-- Are two operations' objects of two classes? -/
def farL (loc : List Nat) (i j : Nat) : Bool := !(loc.getD i 0 == 0) && (!(loc.getD j 0 == 0) && !(loc.getD i 0 == loc.getD j 0))

/-- May the region be walked in the order of the text? -/
def drawOk (L : List Nat) (ops : Array Oper) : Bool :=
  Region.lexB .any ops && (List.range ops.size).all fun i => (List.range ops.size).all fun j => match ops[i]?, ops[j]? with
    | some oi, some oj => i == j || !clash oi.op oj.op || bef ops 4 i j || bef ops 4 j i || farL L i j
    | _, _ => true

def xt (C : Ctx) : (Exit → AS → Prop) → List XI → AS → Prop
  | Q, [], σ => Q .normal σ
  | Q, .inB _ :: k, σ => xt C Q k σ
  | Q, .ops _ [] :: k, σ => xt C Q k σ
  | Q, .ops all (o :: rest) :: k, σ =>
    ∃ t : Bool, (match o.guard with | none => t = true | some (j, want) => gdOk (gv all σ j) want t) ∧
    (t = false → xt C Q (.ops all rest :: k) (σ.put o.dst (.sc undef))) ∧
    (t = true → match callOf o.op with
      | some (f, args) => ACallV C.P (σ.ev f) (args.map σ.ev) σ.heap σ.next (fun r h' nx' => xt C Q (.ops all rest :: k) { (σ.put o.dst r) with heap := h', next := nx' })
      | none => match nilCmp C.P o.op with
        | some (n, x) => ∃ ls, elems σ.heap (σ.ev x) = some ls ∧ ∀ b : Bool, (ls ≠ [] → b = false) → xt C Q (.ops all rest :: k) (σ.put o.dst (.sc (.bool (b != n))))
        | none => ∃ r, opX C.P σ.heap σ.next σ.ev o.op = some r ∧ xt C Q (.ops all rest :: k) (σ.next' o.dst r))
  | Q, .code .skip :: k, σ => xt C Q k σ
  | Q, .code (.seq a b) :: k, σ => xt C Q (.code a :: .code b :: k) σ
  | Q, .code (.cond c a b) :: k, σ => ∃ t, σ.ev c = .sc (.bool t) ∧ (t = true → xt C Q (.code a :: k) σ) ∧ (t = false → xt C Q (.code b :: k) σ)
  | Q, .code (.block id c) :: k, σ => xt C Q (.code c :: .inB id :: k) σ
  | Q, .code (.exit id) :: k, σ => match hp : popExit id k with
    | some k' => xt C Q k' σ
    | none => Q (.exit id) σ
  | Q, .code .ret :: k, σ => Q .ret σ
  | Q, .code (.region _ ops false) :: k, σ => xt C Q (.ops ops ops.toList :: k) σ
  | Q, .code (.region _ ops true) :: k, σ => ∃ L : Loc, drawOk L.loc ops = true ∧ XD C ops L σ.next 0 ops.toList σ (fun σ' => xt C Q k { σ' with next := σ.next + ops.size })
  | Q, .code (.loop c) :: k, σ => ∃ n, XLoopN (fun Q' σ' => xt C Q' [.code c] σ') (fun e σ' => match e with
      | .exit id => (match hp : popExit id k with
        | some k' => xt C Q k' σ'
        | none => Q (.exit id) σ')
      | e => Q e σ') n σ
  | Q, .code (.rangeFunc f ps as body) :: k, σ =>
    (∀ r, C.rid = some r → ∃ rr, look r σ.heap = some (.loop rr)) ∧ ∃ g caps, σ.ev f = .fn (.func g) caps ∧
    ACall C.P g (.yld (rangeIn C σ ps as body).1 :: caps) (rangeIn C σ ps as body).2.heap (rangeIn C σ ps as body).2.next (fun _ h' nx' =>
      ∃ r', look (rangeIn C σ ps as body).1 h' = some (.loop r') ∧ r'.st ≠ .busy ∧
      match r'.pend with
      | none => xt C Q k (rangeOut (rangeIn C σ ps as body).2 (rangeIn C σ ps as body).1 r' h' nx')
      | some .ret => Q .ret (rangeOut (rangeIn C σ ps as body).2 (rangeIn C σ ps as body).1 r' h' nx')
      | some (.exit i) => (match hp : popExit i k with
        | some k' => xt C Q k' (rangeOut (rangeIn C σ ps as body).2 (rangeIn C σ ps as body).1 r' h' nx')
        | none => Q (.exit i) (rangeOut (rangeIn C σ ps as body).2 (rangeIn C σ ps as body).1 r' h' nx'))
      | _ => False)
  | Q, .code (.label _) :: k, σ => xt C Q k σ
  | _, .code (.goto _) :: _, _ => False
  | _, .code (.scope _) :: _, _ => False
  | _, .code (.refuse _) :: _, _ => False
termination_by Q todo => tsz todo
decreasing_by
  all_goals simp_wf
  all_goals simp only [tsz, XI.sz, csz, List.length_cons, Array.length_toList]
  all_goals first
    | omega
    | (have := popExit_sz hp; omega)
    | (have := csz_pos c; have := popExit_sz hp; omega)
    | (have := csz_pos body; omega)
    | (have := csz_pos body; have := popExit_sz hp; omega)

/-! ### The machine's side -/

def kq (F : Fence) (P : Program) (Q : Exit → Act → World → Prop) : List XI → Exit → Act → World → Prop
  | [], e => Q e
  | .inB id :: k, e => match e with
    | .exit i => if i = id then kq F P Q k .normal else kq F P Q k (.exit i)
    | e => kq F P Q k e
  | .code c :: k, e => match e with
    | .normal => c.wpIn F 0 P (kq F P Q k)
    | e => kq F P Q k e
  | .ops all l :: k, e => match e with
    | .normal => wpListIn F 0 P all (kq F P Q k) l
    | e => kq F P Q k e

section
variable {F : Fence} {P : Program} {Q : Exit → Act → World → Prop}

theorem kq_exit_some {id : Nat} : ∀ {k k' : List XI}, popExit id k = some k' → kq F P Q k (.exit id) = kq F P Q k' .normal
  | [], k', h => by simp [popExit] at h
  | .inB i :: k, k', h => by
    simp only [popExit] at h
    simp only [kq]
    split at h
    · rename_i e
      cases h
      simp [e]
    · rename_i e
      have : ¬ id = i := fun x => e x.symm
      simp only [this, if_false]
      exact kq_exit_some h
  | .code c :: k, k', h => by simp only [kq]; exact kq_exit_some (by simpa [popExit] using h)
  | .ops a l :: k, k', h => by simp only [kq]; exact kq_exit_some (by simpa [popExit] using h)

theorem kq_exit_none {id : Nat} : ∀ {k : List XI}, popExit id k = none → kq F P Q k (.exit id) = Q (.exit id)
  | [], h => rfl
  | .inB i :: k, h => by
    simp only [popExit] at h
    simp only [kq]
    split at h
    · cases h
    · rename_i e
      have : ¬ id = i := fun x => e x.symm
      simp only [this, if_false]
      exact kq_exit_none h
  | .code c :: k, h => by simp only [kq]; exact kq_exit_none (by simpa [popExit] using h)
  | .ops a l :: k, h => by simp only [kq]; exact kq_exit_none (by simpa [popExit] using h)

theorem kq_other {e : Exit} (h1 : e ≠ .normal) (h2 : ∀ i, e ≠ .exit i) : ∀ {k : List XI}, kq F P Q k e = Q e
  | [] => rfl
  | .inB i :: k => by
    cases e <;> simp only [kq] <;> first | exact kq_other h1 h2 | exact absurd rfl h1 | exact absurd rfl (h2 _)
  | .code c :: k => by
    cases e <;> simp only [kq] <;> first | exact kq_other h1 h2 | exact absurd rfl h1 | exact absurd rfl (h2 _)
  | .ops a l :: k => by
    cases e <;> simp only [kq] <;> first | exact kq_other h1 h2 | exact absurd rfl h1 | exact absurd rfl (h2 _)
end
end Go.Abs

/- The abstract layer, part O: on what an operation's outcome leans; what it does to the heap. -/
set_option linter.unusedVariables false
set_option linter.unusedSimpArgs false
namespace Go.Abs
open Go.RowKit

/-- What an operation does to the heap. -/
inductive Eff where
  | none
  | new (id : Nat) (o : AObj)
  | set (k : Nat) (o : AObj)

def Eff.app : Eff → Heap → Heap
  | .none, h => h
  | .new id o, h => hc id o h
  | .set k o, h => upd k o h

/-- The same objects behind a value. -/
def SameAt (h h2 : Heap) (v : AV) : Prop := ∀ k, topId v = some k → look k h2 = look k h

section
variable {P : Program} {h h2 : Heap}
theorem ptrCells_local {v : AV} (s : SameAt h h2 v) : ptrCells h2 v = ptrCells h v := by
  cases v <;> simp only [ptrCells] <;> rw [s _ rfl]
theorem elems_local {v : AV} (s : SameAt h h2 v) : elems h2 v = elems h v := by
  cases v <;> simp only [elems] <;> rw [s _ rfl]
theorem elemsAt_local {v : AV} {sz : Nat} (s : SameAt h h2 v) : elemsAt h2 sz v = elemsAt h sz v := by
  cases v <;> simp only [elemsAt] <;> rw [s _ rfl]
theorem loadA_local {t : TypeId} {v : AV} (s : SameAt h h2 v) : loadA P h2 t v = loadA P h t v := by
  unfold loadA; rw [ptrCells_local s]
theorem fieldAddrA_local {t : TypeId} {v : AV} {f : Nat} (s : SameAt h h2 v) : fieldAddrA P h2 t v f = fieldAddrA P h t v f := by
  unfold fieldAddrA; rw [ptrCells_local s]
theorem indexAddrA_local {t : TypeId} {v i : AV} (s : SameAt h h2 v) : indexAddrA P h2 t v i = indexAddrA P h t v i := by
  have h1 := ptrCells_local s
  cases v with
  | own id g lo => have e := s id rfl; simp only [indexAddrA, e, h1]
  | _ => simp only [indexAddrA, h1]
theorem lenA_local {t : TypeId} {v : AV} (s : SameAt h h2 v) : lenA P h2 t v = lenA P h t v := by
  have h1 := elems_local s
  cases v with
  | mp id => have e := s id rfl; simp only [lenA, e, h1]
  | _ => simp only [lenA, h1]
theorem sliceA_local {t : TypeId} {v : AV} {lo hi mx : Option AV} (s : SameAt h h2 v) : sliceA P h2 t v lo hi mx = sliceA P h t v lo hi mx := by
  cases v with
  | own id g lo => have e := s id rfl; simp only [sliceA, e]
  | _ => simp only [sliceA]
theorem lookupA_local {t : TypeId} {m k : AV} {ok : Bool} (s : SameAt h h2 m) : lookupA P h2 t m k ok = lookupA P h t m k ok := by
  unfold lookupA
  cases ht : tiOf P t with
  | none => rfl
  | some ti => cases m with
    | mp id => have e := s id rfl; cases k <;> simp only [e]
    | _ => cases k <;> rfl
theorem binA_local {op : BinOp} {t : TypeId} {xo yo : Operand} {x y : AV} (s : SameAt h h2 x) : binA P h2 op t xo yo x y = binA P h op t xo yo x y := by
  have e := ptrCells_local s
  unfold binA
  split
  · rfl
  · rfl
  · rfl
  · split
    · rfl
    · split
      · split
        · rfl
        · simp only [e]
      · rfl
  · rfl

theorem storeA_local {t : TypeId} {a x : AV} {h' : Heap} (hv : storeA P h t a x = some h') : ∃ k o, h' = upd k o h ∧ topId a = some k ∧ (∃ o0, look k h = some o0) ∧ ∀ h2, SameAt h h2 a → storeA P h2 t a x = some (upd k o h2) := by
  unfold storeA at hv
  split at hv
  · rename_i ti ns hti hns
    split at hv
    · rename_i hsz
      split at hv
      · rename_i id off
        split at hv
        · rename_i cs hl
          split at hv
          · rename_i hle
            cases hv
            refine ⟨id, _, rfl, rfl, ⟨_, hl⟩, fun h2 s => ?_⟩
            have := s id rfl
            unfold storeA
            simp [hti, hns, hsz, this, hl]
            omega
          · cases hv
        · cases hv
      · rename_i id g i off
        split at hv
        · rename_i g' sz L hl
          split at hv
          · rename_i hg
            split at hv
            · rename_i cs hi
              split at hv
              · rename_i hle
                cases hv
                refine ⟨id, _, rfl, rfl, ⟨_, hl⟩, fun h2 s => ?_⟩
                have := s id rfl
                unfold storeA
                simp [hti, hns, hsz, this, hl, hg, hi]
                omega
              · cases hv
            · cases hv
          · cases hv
        · cases hv
      · cases hv
    · cases hv
  · cases hv

theorem mapSetA_local {t : TypeId} {m k v : AV} {h' : Heap} (hv : mapSetA h P t m k v = some h') : ∃ i o, h' = upd i o h ∧ topId m = some i ∧ (∃ o0, look i h = some o0) ∧ ∀ h2, SameAt h h2 m → mapSetA h2 P t m k v = some (upd i o h2) := by
  unfold mapSetA at hv
  split at hv
  · rename_i ti id kv hti
    split at hv
    · rename_i kt et es hmk hl
      split at hv
      · rename_i hko
        split at hv
        · rename_i j w hf
          cases hv
          refine ⟨id, _, rfl, rfl, ⟨_, hl⟩, fun h2 s => ?_⟩
          have := s id rfl
          unfold mapSetA
          simp [hti, hmk, this, hl, hko, hf]
        · rename_i hf
          cases hv
          refine ⟨id, _, rfl, rfl, ⟨_, hl⟩, fun h2 s => ?_⟩
          have := s id rfl
          unfold mapSetA
          simp [hti, hmk, this, hl, hko, hf]
        · cases hv
      · cases hv
    · cases hv
  · cases hv

theorem appendA_local {id : Nat} {t : TypeId} {s x : AV} {v : AV} {h' : Heap} {fr : Bool} (hv : appendA P h id t s x = some (v, h', fr)) :
    ∃ e : Eff, h' = e.app h ∧ (∀ i o, e = .new i o → i = id) ∧ (∀ k o, e = .set k o → topId s = some k ∧ ∃ o0, look k h = some o0) ∧ ∀ h2, SameAt h h2 s → SameAt h h2 x → appendA P h2 id t s x = some (v, e.app h2, fr) := by
  unfold appendA at hv
  split at hv
  · cases hv
  rename_i ti hti
  split at hv
  · cases hv
  rename_i e he
  split at hv
  · cases hv
  rename_i te hte
  split at hv
  · rename_i hz
    split at hv
    · rename_i xs ls hxs hls
      split at hv
      · rename_i hlen
        split at hv
        · cases hv
          refine ⟨.new id _, rfl, fun i o e => (by cases e; rfl), fun k o e => (by cases e), fun h2 s1 s2 => ?_⟩
          unfold appendA
          simp only [hti, he, hte, hz, if_true, elemsAt_local s1, elemsAt_local s2, hxs, hls, hlen, and_self, Eff.app]
        · rename_i i g lo
          cases hv
          refine ⟨.set i _, rfl, fun i o e => (by cases e), fun k o e => (by
            cases e
            refine ⟨rfl, ?_⟩
            simp only [elemsAt] at hls
            split at hls
            · rename_i hl; exact ⟨_, hl⟩
            · cases hls), fun h2 s1 s2 => ?_⟩
          unfold appendA
          simp only [hti, he, hte, hz, if_true, elemsAt_local s1, elemsAt_local s2, hxs, hls, hlen, and_self, Eff.app]
        · cases hv
      · cases hv
    · cases hv
  · cases hv

theorem buildSliceA_local {id : Nat} {t : TypeId} {n : Nat} {ps : List (Nat × AV)} {v : AV} {h' : Heap} (hv : buildSliceA P h id t n ps = some (v, h')) : ∃ o, h' = hc id o h ∧ ∀ h2, buildSliceA P h2 id t n ps = some (v, hc id o h2) := by
  unfold buildSliceA at hv
  split at hv
  · cases hv
  rename_i ti hti
  split at hv
  · cases hv
  rename_i e he
  split at hv
  · cases hv
  rename_i te hte
  split at hv
  · cases hv
  rename_i rows hr
  split at hv
  · rename_i hc'
    cases hv
    refine ⟨_, rfl, fun h2 => ?_⟩
    unfold buildSliceA
    simp only [hti, he, hte, hr, hc', and_self, if_true]
  · cases hv

theorem allocA_local {id : Nat} {t : TypeId} {h' : Heap} (hv : allocA P id t h = some h') : ∃ o, h' = hc id o h ∧ ∀ h2, allocA P id t h2 = some (hc id o h2) := by
  unfold allocA at hv
  split at hv
  · cases hv
  rename_i ti hti
  split at hv
  · cases hv
  rename_i z hz
  split at hv
  · rename_i hzo
    cases hv
    refine ⟨_, rfl, fun h2 => ?_⟩
    unfold allocA
    simp only [hti, hz, hzo, if_true]
  · cases hv

/-- What an operation does, and on what it leans. -/
structure EffOk (P : Program) (h : Heap) (id : Nat) (ρ : Operand → AV) (op : Op) (v : AV) (h' : Heap) (fr : Bool) (e : Eff) : Prop where
  app : h' = e.app h
  new : ∀ i o, e = .new i o → i = id
  set : ∀ k o, e = .set k o → opWr op = true ∧ (∃ x ∈ op.operands, topId (ρ x) = some k) ∧ ∃ o0, look k h = some o0
  loc : ∀ h2, ((opRd op || opWr op) = true → ∀ x ∈ op.operands, SameAt h h2 (ρ x)) → opA P h2 id ρ op = some (v, e.app h2, fr)

theorem eff_val {id : Nat} {ρ : Operand → AV} {op : Op} {v : AV} {h' : Heap} {fr : Bool} (f : Heap → Option AV) (hf : ∀ h, opA P h id ρ op = (f h).map fun v => (v, h, false))
    (hl : ∀ h2, ((opRd op || opWr op) = true → ∀ x ∈ op.operands, SameAt h h2 (ρ x)) → f h2 = f h) (hv : opA P h id ρ op = some (v, h', fr)) : ∃ e, EffOk P h id ρ op v h' fr e := by
  rw [hf] at hv
  simp only [Option.map_eq_some_iff, Prod.mk.injEq] at hv
  obtain ⟨v0, hv0, rfl, rfl, rfl⟩ := hv
  exact ⟨.none, rfl, fun _ _ e => (by cases e), fun _ _ e => (by cases e), fun h2 hc => by rw [hf, hl h2 hc, hv0]; rfl⟩

theorem opA_eff {id : Nat} {ρ : Operand → AV} {op : Op} {v : AV} {h' : Heap} {fr : Bool} (hv : opA P h id ρ op = some (v, h', fr)) : ∃ e, EffOk P h id ρ op v h' fr e := by
  cases op with
  | move x => exact eff_val (fun _ => some (ρ x)) (fun _ => rfl) (fun _ _ => rfl) hv
  | assign x => exact eff_val (fun _ => some (ρ x)) (fun _ => rfl) (fun _ _ => rfl) hv
  | pick c a b =>
    refine eff_val (fun _ => match ρ c with
      | .sc (.bool t) => some (if t then ρ a else ρ b)
      | _ => none) (fun _ => ?_) (fun _ _ => rfl) hv
    simp only [opA]
    split
    · rename_i t ht; simp [ht]
    · rename_i ht
      split
      · rename_i t ht'; exact absurd ht' (ht t)
      · rfl
  | alloc t =>
    simp only [opA, Option.map_eq_some_iff, Prod.mk.injEq] at hv
    obtain ⟨h1, hh, rfl, rfl, rfl⟩ := hv
    obtain ⟨o, rfl, h3⟩ := allocA_local hh
    exact ⟨.new id o, rfl, fun i o e => (by cases e; rfl), fun k o e => (by cases e), fun h2 _ => by simp [opA, h3 h2, Eff.app]⟩
  | box t x =>
    simp only [opA, Option.map_eq_some_iff, Prod.mk.injEq] at hv
    obtain ⟨cs, hcs, rfl, rfl, rfl⟩ := hv
    exact ⟨.new id (.box cs), rfl, fun i o e => (by cases e; rfl), fun k o e => (by cases e), fun h2 _ => by simp [opA, hcs, Eff.app]⟩
  | build t parts => exact eff_val (fun _ => buildA P t (parts.toList.map fun p => (p.1, ρ p.2))) (fun _ => rfl) (fun _ _ => rfl) hv
  | buildSlice t len parts =>
    simp only [opA, Option.map_eq_some_iff, Prod.mk.injEq] at hv
    obtain ⟨⟨v0, h0⟩, hv0, rfl, rfl, rfl⟩ := hv
    obtain ⟨o, rfl, h3⟩ := buildSliceA_local hv0
    exact ⟨.new id o, rfl, fun i o e => (by cases e; rfl), fun k o e => (by cases e), fun h2 _ => by simp [opA, h3 h2, Eff.app]⟩
  | load t a => exact eff_val (fun h => loadA P h t (ρ a)) (fun _ => rfl) (fun h2 hc => loadA_local (hc rfl a (by simp [Op.operands]))) hv
  | store t a x =>
    simp only [opA, Option.map_eq_some_iff, Prod.mk.injEq] at hv
    obtain ⟨h0, hh, rfl, rfl, rfl⟩ := hv
    obtain ⟨k, o, rfl, h4, h5, h6⟩ := storeA_local hh
    exact ⟨.set k o, rfl, fun i o e => (by cases e), fun k o e => (by cases e; exact ⟨rfl, ⟨a, by simp [Op.operands], h4⟩, h5⟩), fun h2 hc => by simp [opA, h6 h2 (hc rfl a (by simp [Op.operands])), Eff.app]⟩
  | nilCheck x =>
    refine eff_val (fun h => match ptrCells h (ρ x) with
      | some _ => some (ρ x)
      | none => none) (fun h => ?_) (fun h2 hc => by rw [ptrCells_local (hc rfl x (by simp [Op.operands]))]) hv
    simp only [opA]
    cases ptrCells h (ρ x) <;> rfl
  | binOp op t x y yt => exact eff_val (fun h => binA P h op t x y (ρ x) (ρ y)) (fun _ => rfl) (fun h2 hc => binA_local (hc rfl x (by simp [Op.operands]))) hv
  | unOp op t x => exact eff_val (fun _ => unA op (ρ x)) (fun _ => rfl) (fun _ _ => rfl) hv
  | convert s d x => exact eff_val (fun _ => convA P s d (ρ x)) (fun _ => rfl) (fun _ _ => rfl) hv
  | makeInterface t x => exact eff_val (fun _ => mkIfaceA P t (ρ x)) (fun _ => rfl) (fun _ _ => rfl) hv
  | makeFunc f first caps =>
    refine eff_val (fun _ => if first.size = 0 then some (.fn f (caps.toList.map ρ)) else none) (fun _ => ?_) (fun _ _ => rfl) hv
    simp only [opA]
    split <;> rfl
  | makeMap t r =>
    cases r with
    | none =>
      simp only [opA, Option.some.injEq, Prod.mk.injEq] at hv
      obtain ⟨rfl, rfl, rfl⟩ := hv
      exact ⟨.new id (.map []), rfl, fun i o e => (by cases e; rfl), fun k o e => (by cases e), fun h2 _ => by simp [opA, Eff.app]⟩
    | some _ => simp [opA] at hv
  | slice t x lo hi mx => exact eff_val (fun h => sliceA P h t (ρ x) (lo.map ρ) (hi.map ρ) (mx.map ρ)) (fun _ => rfl) (fun h2 hc => sliceA_local (hc rfl x (by simp [Op.operands]))) hv
  | fieldAddr s x f => exact eff_val (fun h => fieldAddrA P h s (ρ x) f) (fun _ => rfl) (fun h2 hc => fieldAddrA_local (hc rfl x (by simp [Op.operands]))) hv
  | field t x f => exact eff_val (fun _ => fieldA P t (ρ x) f) (fun _ => rfl) (fun _ _ => rfl) hv
  | indexAddr t x i => exact eff_val (fun h => indexAddrA P h t (ρ x) (ρ i)) (fun _ => rfl) (fun h2 hc => indexAddrA_local (hc rfl x (by simp [Op.operands]))) hv
  | index t x i => exact eff_val (fun _ => indexA P t (ρ x) (ρ i)) (fun _ => rfl) (fun _ _ => rfl) hv
  | lookup t m k ok => exact eff_val (fun h => lookupA P h t (ρ m) (ρ k) ok) (fun _ => rfl) (fun h2 hc => lookupA_local (hc rfl m (by simp [Op.operands]))) hv
  | mapUpdate t m k x =>
    simp only [opA, Option.map_eq_some_iff, Prod.mk.injEq] at hv
    obtain ⟨h0, hh, rfl, rfl, rfl⟩ := hv
    obtain ⟨i, o, rfl, h4, h5, h6⟩ := mapSetA_local hh
    exact ⟨.set i o, rfl, fun i o e => (by cases e), fun k o e => (by cases e; exact ⟨rfl, ⟨m, by simp [Op.operands], h4⟩, h5⟩), fun h2 hc => by simp [opA, h6 h2 (hc rfl m (by simp [Op.operands])), Eff.app]⟩
  | insert t m k x =>
    simp only [opA, Option.map_eq_some_iff, Prod.mk.injEq] at hv
    obtain ⟨h0, hh, rfl, rfl, rfl⟩ := hv
    obtain ⟨i, o, rfl, h4, h5, h6⟩ := mapSetA_local hh
    exact ⟨.set i o, rfl, fun i o e => (by cases e), fun k o e => (by cases e; exact ⟨rfl, ⟨m, by simp [Op.operands], h4⟩, h5⟩), fun h2 hc => by simp [opA, h6 h2 (hc rfl m (by simp [Op.operands])), Eff.app]⟩
  | extract x i => exact eff_val (fun _ => extractA (ρ x) i) (fun _ => rfl) (fun _ _ => rfl) hv
  | call c =>
    obtain ⟨callee, args, tys⟩ := c
    cases callee with
    | builtin b =>
      simp only [opA] at hv
      split at hv
      · rename_i x t ha ht
        have ha' : args = #[x] := Array.ext' (by simpa using ha)
        have ht' : tys = #[t] := Array.ext' (by simpa using ht)
        subst ha'
        subst ht'
        exact eff_val (op := .call { callee := .builtin .len, args := #[x], argTypes := #[t] }) (fun h => lenA P h t (ρ x)) (fun _ => rfl) (fun h2 hc => lenA_local (hc rfl x (by simp [Op.operands, Call.operands]))) hv
      · rename_i s x t t' ha ht
        have ha' : args = #[s, x] := Array.ext' (by simpa using ha)
        have ht' : tys = #[t, t'] := Array.ext' (by simpa using ht)
        subst ha'
        subst ht'
        split at hv
        · rename_i htt
          subst htt
          obtain ⟨e, h3, h4, h5, h6⟩ := appendA_local hv
          refine ⟨e, h3, h4, fun k o he => ⟨rfl, ⟨s, by simp [Op.operands, Call.operands], (h5 k o he).1⟩, (h5 k o he).2⟩, fun h2 hc => ?_⟩
          simp only [opA, if_true]
          exact h6 h2 (hc rfl s (by simp [Op.operands, Call.operands])) (hc rfl x (by simp [Op.operands, Call.operands]))
        · cases hv
      · cases hv
    | value f => simp [opA] at hv
    | invoke r m => simp [opA] at hv
  | _ => simp [opA] at hv

theorem opA_congr {id : Nat} {ρ ρ' : Operand → AV} {op : Op} (hρ : ∀ x ∈ op.operands, ρ' x = ρ x) : opA P h id ρ' op = opA P h id ρ op := by
  cases op with
  | build t parts =>
    have : (parts.toList.map fun p => (p.1, ρ' p.2)) = parts.toList.map fun p => (p.1, ρ p.2) := List.map_congr_left fun p hp => by rw [hρ p.2 (by simp only [Op.operands, List.mem_toArray, List.mem_map]; exact ⟨p, hp, rfl⟩)]
    simp only [opA, this]
  | buildSlice t n parts =>
    have : (parts.toList.map fun p => (p.1, ρ' p.2)) = parts.toList.map fun p => (p.1, ρ p.2) := List.map_congr_left fun p hp => by rw [hρ p.2 (by simp only [Op.operands, List.mem_toArray, List.mem_map]; exact ⟨p, hp, rfl⟩)]
    simp only [opA, this]
  | makeFunc f first caps =>
    have : caps.toList.map ρ' = caps.toList.map ρ := List.map_congr_left fun p hp => hρ p (by simp only [Op.operands, Array.mem_append]; exact .inr (by simpa using hp))
    simp only [opA, this]
  | slice t x lo hi mx =>
    have h1 : ρ' x = ρ x := hρ x (by simp [Op.operands])
    have h2 : lo.map ρ' = lo.map ρ := by cases lo with | none => rfl | some y => simp [hρ y (by simp [Op.operands])]
    have h3 : hi.map ρ' = hi.map ρ := by cases hi with | none => rfl | some y => simp [hρ y (by simp [Op.operands])]
    have h4 : mx.map ρ' = mx.map ρ := by cases mx with | none => rfl | some y => simp [hρ y (by simp [Op.operands])]
    simp only [opA, h1, h2, h3, h4]
  | call c =>
    obtain ⟨callee, args, tys⟩ := c
    cases callee with
    | builtin b =>
      simp only [opA]
      split
      · rename_i x t ha ht
        have ha' : args = #[x] := Array.ext' (by simpa using ha)
        subst ha'
        rw [hρ x (by simp [Op.operands, Call.operands])]
      · rename_i s x t t' ha ht
        have ha' : args = #[s, x] := Array.ext' (by simpa using ha)
        subst ha'
        rw [hρ x (by simp [Op.operands, Call.operands]), hρ s (by simp [Op.operands, Call.operands])]
      · rfl
    | value f => rfl
    | invoke r m => rfl
  | makeMap t r => cases r <;> rfl
  | move x => simp only [opA, hρ x (by simp [Op.operands])]
  | assign x => simp only [opA, hρ x (by simp [Op.operands])]
  | pick c a b => simp only [opA, hρ c (by simp [Op.operands]), hρ a (by simp [Op.operands]), hρ b (by simp [Op.operands])]
  | box t x => simp only [opA, hρ x (by simp [Op.operands])]
  | load t x => simp only [opA, hρ x (by simp [Op.operands])]
  | store t a x => simp only [opA, hρ x (by simp [Op.operands]), hρ a (by simp [Op.operands])]
  | nilCheck x => simp only [opA, hρ x (by simp [Op.operands])]
  | binOp op t x y yt => simp only [opA, hρ x (by simp [Op.operands]), hρ y (by simp [Op.operands])]
  | unOp op t x => simp only [opA, hρ x (by simp [Op.operands])]
  | convert s d x => simp only [opA, hρ x (by simp [Op.operands])]
  | makeInterface t x => simp only [opA, hρ x (by simp [Op.operands])]
  | fieldAddr t x f => simp only [opA, hρ x (by simp [Op.operands])]
  | field t x f => simp only [opA, hρ x (by simp [Op.operands])]
  | indexAddr t x y => simp only [opA, hρ x (by simp [Op.operands]), hρ y (by simp [Op.operands])]
  | index t x y => simp only [opA, hρ x (by simp [Op.operands]), hρ y (by simp [Op.operands])]
  | lookup t x y ok => simp only [opA, hρ x (by simp [Op.operands]), hρ y (by simp [Op.operands])]
  | mapUpdate t m k x => simp only [opA, hρ x (by simp [Op.operands]), hρ m (by simp [Op.operands]), hρ k (by simp [Op.operands])]
  | insert t m k x => simp only [opA, hρ x (by simp [Op.operands]), hρ m (by simp [Op.operands]), hρ k (by simp [Op.operands])]
  | extract x i => simp only [opA, hρ x (by simp [Op.operands])]
  | _ => rfl
end
end Go.Abs

/- The abstract layer, part Ob: regions whose order is open: one walk in the order of the text serves every order. -/
set_option linter.unusedVariables false
set_option linter.unusedSimpArgs false
namespace Go.Abs
open Go.RowKit

def opOk (nt : Nat) (o : Oper) : Bool := match o.dst with
  | some d => decide (d < nt)
  | none => true


section
variable {C : Ctx} {O : Orig} {l : Option Nat}
theorem gv_sound {G : Gh} {A : Nat → Prop} {σ : AS} {a : Act} {w : World} (k : OkA C O l G A σ a w) {all : Array Oper} (hall : all.toList.all (opOk C.nt) = true) {j : Nat} {b : Bool} (h : gv all σ j = .sc (.bool b)) : yielded all a.tmps j = some b := by
  unfold gv at h
  cases hd : (all[j]?).bind (·.dst) with
  | none => simp [hd] at h
  | some d =>
    simp only [hd] at h
    have hr := k.ev (.tmp d)
    rw [h] at hr
    have hv := hr.sc_inv
    have hlt : d < a.tmps.size := by
      rw [k.size]
      cases ho : all[j]? with
      | none => simp [ho] at hd
      | some o =>
        simp only [ho, Option.bind_some] at hd
        have hm : o ∈ all.toList := by rw [← Array.getElem?_toList] at ho; exact List.mem_of_getElem? ho
        have := List.all_eq_true.1 hall o hm
        simpa [opOk, hd] using this
    unfold yielded
    simp only [hd, Option.bind_some]
    simp only [Act.eval, Array.getD_eq_getD_getElem?] at hv
    rw [Array.getElem?_eq_getElem hlt] at hv ⊢
    simp only [Option.getD_some] at hv
    rw [hv]

theorem gv_undef {G : Gh} {A : Nat → Prop} {σ : AS} {a : Act} {w : World} (k : OkA C O l G A σ a w) {all : Array Oper} {j : Nat} (h : gv all σ j = .sc undef) : yielded all a.tmps j = none := by
  unfold gv at h
  cases hd : (all[j]?).bind (·.dst) with
  | none => simp [hd] at h
  | some d =>
    simp only [hd] at h
    have hr := k.ev (.tmp d)
    rw [h] at hr
    have hv := hr.sc_inv
    unfold yielded
    simp only [hd, Option.bind_some]
    simp only [Act.eval, Array.getD_eq_getD_getElem?] at hv
    cases ht : a.tmps[d]? with
    | none => rfl
    | some u =>
      rw [ht] at hv
      simp only [Option.getD_some] at hv
      rw [hv]
      rfl

theorem opOk_dst {nt : Nat} {o : Oper} (h : opOk nt o = true) : ∀ t, o.dst = some t → t < nt := by
  intro t ht
  simpa [opOk, ht] using h

theorem run_call {P : Program} {ρ : Operand → Value} {f : Operand} {args tys : Array _} {ty : TypeId} {w : World} :
    (do let d ← resolve ρ { callee := .value f, args := args, argTypes := tys } ty; invoke d.target d.args : Sem Next).run P w = (do let d ← Deferred.ofValue (ρ f) (args.map ρ); invoke d.target d.args : Sem Next).run P w := by
  simp only [resolve]

end

/-! ### More numbers -/

theorem Rel.wide {G : Gh} {w : World} {A A' : Nat → Prop} {h : Heap} {v : AV} {x : Value} (r : Rel G w A h v x) (hA : ∀ j, A j → A' j) : Rel G w A' h v x :=
  r.compat ⟨fun _ h => h, fun _ _ _ _ h => h, hA, fun _ _ => objCompat_refl _ _⟩

theorem SatH.wide {G : Gh} {w : World} {A A' : Nat → Prop} {h : Heap} (S : SatH G w A h) (hA : ∀ j, A j → A' j) : SatH G w A' h :=
  ⟨fun i o hi => ⟨hA i (S.obj i o hi).1, RelO.restrict (S.obj i o hi).2.refs hA (fun _ _ h => h) (S.obj i o hi).2⟩, S.inj, S.zdis, S.zin⟩

theorem OkA.wide {C : Ctx} {O : Orig} {l : Option Nat} {G : Gh} {A A' : Nat → Prop} {σ : AS} {a : Act} {w : World} (k : OkA C O l G A σ a w) (hA : ∀ j, A j → A' j) : OkA C O l G A' σ a w := by
  refine ⟨k.sat.wide hA, fun t v ht => (k.tmps t v ht).wide hA, k.size, ?_, ?_, fun r hr => ?_, k.nornd⟩
  · obtain ⟨bs, h1, h2, h3⟩ := k.defers
    exact ⟨bs, h1, h2, fun j id b hj hb => (h3 j id b hj hb).wide hA⟩
  · have E := k.evo
    exact ⟨E.os, E.tape, E.output, E.size, E.frame, E.prov, E.zprov, fun j hj => hA j (E.le j hj), fun v x r => (E.rel v x r).wide hA⟩
  · obtain ⟨l0, h1, h2⟩ := k.rnd r hr
    exact ⟨l0, h1, h2.wide hA⟩

theorem OkA.next {C : Ctx} {O : Orig} {l : Option Nat} {G : Gh} {A : Nat → Prop} {σ : AS} {a : Act} {w : World} (k : OkA C O l G A σ a w) (n : Nat) : OkA C O l G A { σ with next := n } a w :=
  ⟨k.sat, k.tmps, k.size, k.defers, k.evo, k.rnd, k.nornd⟩

theorem Refs.top {A : Nat → Prop} {v : AV} (r : Refs A v) {k : Nat} (ht : topId v = some k) : A k := by
  cases r with
  | noRef hn => cases v <;> simp [AV.noRef] at hn <;> simp [topId] at ht
  | own h => cases ht; exact h
  | ptr h => cases ht; exact h
  | eptr h => cases ht; exact h
  | mp h => cases ht; exact h
  | yld h => cases ht
  | mrk h => cases ht
  | agg h => cases ht
  | tup h => cases ht
  | fn h => cases ht

/-- A call that leaves the heap alone, whatever it is. -/
theorem OkA.pureCall {C : Ctx} {O : Orig} {l : Option Nat} {G : Gh} {A : Nat → Prop} {σ : AS} {a : Act} {w : World} (k : OkA C O l G A σ a w) {f : Operand} {args : List Operand} {r : AV}
    (hp : PureCall C.P σ.heap (σ.ev f) (args.map σ.ev) r) {m : Nat} (hm : ∀ j, A j → j < m) {d : Option Tmp} (hd : ∀ t, d = some t → t < C.nt) :
    CallV C.P (a.eval f) (args.map a.eval).toArray w (fun e w' => ∃ x G', e = .returned x ∧ OkA C O l G' A (σ.put d r) (a.put d x) w') := by
  have hA : ∀ j, A j → below m j := fun j hj => hm j hj
  have hrs : Rels G w (below m) σ.heap (args.map σ.ev) (args.map a.eval) := by
    rw [rels_iff]
    refine ⟨by simp, fun j c v hj hv => ?_⟩
    simp only [List.getElem?_map] at hj hv
    cases hq : args[j]? with
    | none => simp [hq] at hj
    | some q =>
      simp only [hq, Option.map_some, Option.some.injEq] at hj hv
      subst hj
      subst hv
      exact (k.ev q).wide hA
  refine (hp.2 σ.heap m (fun r' h' nx' => r' = r ∧ h' = σ.heap ∧ nx' = m) (fun _ _ => rfl) ⟨rfl, rfl, rfl⟩ G w _ _ (k.sat.wide hA) ((k.ev f).wide hA) hrs).mono fun e w' hl => ?_
  obtain ⟨x, r', h', nx', G', rfl, ⟨rfl, rfl, rfl⟩, S', E', R'⟩ := hl
  refine ⟨x, G', rfl, ?_⟩
  have S2 : SatH G' w' A σ.heap := ⟨fun j o hj => ⟨(k.sat.obj j o hj).1, RelO.restrict (k.sat.obj j o hj).2.refs (fun _ h => h) (fun _ _ h => h) (S'.obj j o hj).2⟩, S'.inj, S'.zdis, S'.zin⟩
  have E2 : Evo G w A σ.heap G' w' A σ.heap := ⟨E'.os, E'.tape, E'.output, E'.size, E'.frame, E'.prov, E'.zprov, fun _ h => h, fun v x hv => Rel.restrict hv.refs (fun _ h => h) (fun _ _ h => h) (E'.rel v x (hv.wide hA))⟩
  have := k.step hd S2 E2 (Rel.restrict hp.1 (A' := A) (h' := σ.heap) (fun _ h => h.elim) (fun _ _ h => h) R') σ.next
  cases d <;> exact this

theorem CallV.ends {P : Program} {x : Value} {vs : Array Value} {w : World} {R : Ending → World → Prop} (h : CallV P x vs w R) : ∃ e w', R e w' := by
  rcases h with ⟨f, as, _, h⟩ | ⟨l, f, tmps, as, body, _, h⟩
  · obtain ⟨e, w', _, hR, _⟩ := h []
    exact ⟨e, w', hR⟩
  · obtain ⟨e, w', hR, _⟩ := h.2 default [] (room_wide _)
    exact ⟨e, w', hR⟩

/-! ### What a value leads to -/

theorem Refs.both {A B : Nat → Prop} {v : AV} (h1 : Refs A v) : Refs B v → Refs (fun j => A j ∧ B j) v := by
  induction h1 with
  | noRef h => exact fun _ => .noRef h
  | own h => intro h2; cases h2 with | noRef hn => simp [AV.noRef] at hn | own h2 => exact .own ⟨h, h2⟩
  | ptr h => intro h2; cases h2 with | noRef hn => simp [AV.noRef] at hn | ptr h2 => exact .ptr ⟨h, h2⟩
  | eptr h => intro h2; cases h2 with | noRef hn => simp [AV.noRef] at hn | eptr h2 => exact .eptr ⟨h, h2⟩
  | mp h => intro h2; cases h2 with | noRef hn => simp [AV.noRef] at hn | mp h2 => exact .mp ⟨h, h2⟩
  | yld h => intro h2; cases h2 with | noRef hn => simp [AV.noRef] at hn | yld h2 => exact .yld ⟨h, h2⟩
  | mrk h => intro h2; cases h2 with | noRef hn => simp [AV.noRef] at hn | mrk h2 => exact .mrk ⟨h, h2⟩
  | agg h ih => intro h2; cases h2 with | noRef hn => simp [AV.noRef] at hn | agg h2 => exact .agg fun c hc => ih c hc (h2 c hc)
  | tup h ih => intro h2; cases h2 with | noRef hn => simp [AV.noRef] at hn | tup h2 => exact .tup fun c hc => ih c hc (h2 c hc)
  | fn h ih => intro h2; cases h2 with | noRef hn => simp [AV.noRef] at hn | fn h2 => exact .fn fun c hc => ih c hc (h2 c hc)

theorem ORefs.both {A B : Nat → Prop} {o : AObj} (h1 : ORefs A o) (h2 : ORefs B o) : ORefs (fun j => A j ∧ B j) o := by
  cases o with
  | box cs => exact fun c hc => (h1 c hc).both (h2 c hc)
  | arr g sz L => exact fun cs hcs c hc => (h1 cs hcs c hc).both (h2 cs hcs c hc)
  | map m => exact fun p hp => (h1 p hp).both (h2 p hp)
  | loop r => exact fun t v ht => (h1 t v ht).both (h2 t v ht)
  | dfr => trivial

/-- All numbers of a value: those that every set for it holds. -/
theorem Refs.all {v : AV} {F : (Nat → Prop) → Prop} : (∃ A, Refs A v) → (∀ A, F A → Refs A v) → Refs (fun k => ∀ A, F A → A k) v := by
  rintro ⟨A0, h0⟩
  induction h0 with
  | noRef h => exact fun _ => .noRef h
  | own h => intro h2; exact .own fun A hA => by cases h2 A hA with | noRef hn => simp [AV.noRef] at hn | own h => exact h
  | ptr h => intro h2; exact .ptr fun A hA => by cases h2 A hA with | noRef hn => simp [AV.noRef] at hn | ptr h => exact h
  | eptr h => intro h2; exact .eptr fun A hA => by cases h2 A hA with | noRef hn => simp [AV.noRef] at hn | eptr h => exact h
  | mp h => intro h2; exact .mp fun A hA => by cases h2 A hA with | noRef hn => simp [AV.noRef] at hn | mp h => exact h
  | yld h => intro h2; exact .yld fun A hA => by cases h2 A hA with | noRef hn => simp [AV.noRef] at hn | yld h => exact h
  | mrk h => intro h2; exact .mrk fun A hA => by cases h2 A hA with | noRef hn => simp [AV.noRef] at hn | mrk h => exact h
  | agg h ih => intro h2; exact .agg fun c hc => ih c hc fun A hA => by cases h2 A hA with | noRef hn => simp [AV.noRef] at hn | agg h => exact h c hc
  | tup h ih => intro h2; exact .tup fun c hc => ih c hc fun A hA => by cases h2 A hA with | noRef hn => simp [AV.noRef] at hn | tup h => exact h c hc
  | fn h ih => intro h2; exact .fn fun c hc => ih c hc fun A hA => by cases h2 A hA with | noRef hn => simp [AV.noRef] at hn | fn h => exact h c hc

theorem Refs.any_true (v : AV) : Refs (fun _ => True) v := by
  suffices h : ∀ n (v : AV), SizeOf.sizeOf v ≤ n → Refs (fun _ => True) v from h _ v (Nat.le_refl _)
  intro n
  induction n with
  | zero => intro v hv; cases v <;> simp at hv
  | succ n ih =>
    intro v hv
    have sub : ∀ (cs : List AV), SizeOf.sizeOf cs ≤ n → ∀ c ∈ cs, Refs (fun _ => True) c := fun cs hcs c hc => ih c (by have := List.sizeOf_lt_of_mem hc; omega)
    cases v with
    | any => exact .noRef rfl
    | sc _ => exact .noRef rfl
    | emp => exact .noRef rfl
    | lst _ _ => exact .noRef rfl
    | cptr _ => exact .noRef rfl
    | own _ _ _ => exact .own trivial
    | ptr _ _ => exact .ptr trivial
    | eptr _ _ _ _ => exact .eptr trivial
    | mp _ => exact .mp trivial
    | yld _ => exact .yld trivial
    | mrk _ => exact .mrk trivial
    | agg cs => exact .agg (sub cs (by simp at hv; omega))
    | tup cs => exact .tup (sub cs (by simp at hv; omega))
    | fn f cs => exact .fn (sub cs (by simp at hv; omega))

theorem Refs.reach (h : Heap) (v : AV) : Refs (Reach h v) v := by
  have := Refs.all (v := v) (F := fun A => Refs A v ∧ ∀ j o, A j → look j h = some o → ORefs A o) ⟨_, Refs.any_true v⟩ (fun A hA => hA.1)
  have e : (fun k => ∀ A, (Refs A v ∧ ∀ j o, A j → look j h = some o → ORefs A o) → A k) = Reach h v := by
    funext k
    exact propext ⟨fun hh A h1 h2 => hh A ⟨h1, h2⟩, fun hh A h12 => hh A h12.1 h12.2⟩
  rw [e] at this
  exact this

theorem ORefs.reach {h : Heap} {v : AV} {j : Nat} {o : AObj} (hj : Reach h v j) (hl : look j h = some o) : ORefs (Reach h v) o := by
  have e : (fun k => ∀ A, (Refs A v ∧ ∀ j o, A j → look j h = some o → ORefs A o) → A k) = Reach h v := by
    funext k
    exact propext ⟨fun hh A h1 h2 => hh A ⟨h1, h2⟩, fun hh A h12 => hh A h12.1 h12.2⟩
  have key : ∀ A, (Refs A v ∧ ∀ j o, A j → look j h = some o → ORefs A o) → ORefs A o := fun A hA => hA.2 j o (hj A hA.1 hA.2) hl
  rw [← e]
  cases o with
  | box cs => exact fun c hc => Refs.all ⟨_, Refs.any_true c⟩ fun A hA => key A hA c hc
  | arr g sz L => exact fun cs hcs c hc => Refs.all ⟨_, Refs.any_true c⟩ fun A hA => key A hA cs hcs c hc
  | map m => exact fun p hp => Refs.all ⟨_, Refs.any_true p.2⟩ fun A hA => key A hA p hp
  | loop r => exact fun t u ht => Refs.all ⟨_, Refs.any_true u⟩ fun A hA => key A hA t u ht
  | dfr => trivial

/-! ### One operation's outcome -/

def GuardT (all : Array Oper) (σ : AS) (o : Oper) (t : Bool) : Prop := match o.guard with
  | none => t = true
  | some (j, want) => gdOk (gv all σ j) want t

theorem frzA_spec {P : Program} {t : TypeId} {len : Nat} {parts : List (Nat × AV)} {v : AV} (hv : frzA P t len parts = some v) : ∃ sz rows, v = .lst sz rows ∧ (∀ h id, buildSliceA P h id t len parts = some (.own id 0 0, hc id (.arr 0 sz rows) h)) ∧ ∀ cs ∈ rows, ∀ c ∈ cs, c.noRef = true := by
  unfold frzA at hv
  split at hv
  · cases hv
  rename_i ti hti
  split at hv
  · cases hv
  rename_i e he
  split at hv
  · cases hv
  rename_i te hte
  split at hv
  · cases hv
  rename_i rows hr
  split at hv
  · rename_i hc'
    cases hv
    refine ⟨_, _, rfl, fun h id => ?_, fun cs hcs c hcc => List.all_eq_true.1 (List.all_eq_true.1 hc'.2.2.2 cs hcs) c hcc⟩
    unfold buildSliceA
    simp only [hti, he, hte, hr, hc'.1, hc'.2.1, hc'.2.2.1, and_self, if_true]
  · cases hv

theorem opD_notDefer {fl : Bool} {P : Program} {h : Heap} {id : Nat} {ρ : Operand → AV} {op : Op} {r : AV × Heap × Bool} (hv : opD fl P h id ρ op = some r) : ∀ c, op ≠ .defer c := by
  cases fl with
  | false => exact opA_notDefer hv
  | true =>
    rintro c rfl
    simp [opD] at hv

theorem opD_sound {fl : Bool} {P : Program} {G : Gh} {w : World} {A : Nat → Prop} {h : Heap} (S : SatH G w A h) {id : Nat} (hA : ¬ A id) {ρ : Operand → AV} {ρc : Operand → Value} (hρ : ∀ x, Rel G w A h (ρ x) (ρc x)) {o : Oper} {v : AV} {h' : Heap} {fr : Bool}
    (hv : opD fl P h id ρ o.op = some (v, h', fr)) {A' : Nat → Prop} (hA' : ∀ j, A' j ↔ A j ∨ (fr = true ∧ j = id)) : OpOk G w A h ((execOp ρc o).run P w) v A' h' := by
  cases fl with
  | false => exact opA_sound S hA hρ hv hA'
  | true =>
    unfold opD at hv
    cases hop : o.op with
    | buildSlice t len parts =>
      rw [hop] at hv
      simp only [Option.map_eq_some_iff, Prod.mk.injEq] at hv
      obtain ⟨v0, hv0, rfl, rfl, rfl⟩ := hv
      obtain ⟨sz, rows, rfl, hb, hn⟩ := frzA_spec hv0
      have e : A' = A := funext fun j => propext (by rw [hA']; simp)
      subst e
      have hopA : opA P h id ρ o.op = some (.own id 0 0, hc id (.arr 0 sz rows) h, true) := by rw [hop]; simp [opA, hb]
      obtain ⟨n, x, w', G', h1, h2, S', E', R'⟩ := opA_sound (o := o) S (A' := fun j => A' j ∨ j = id) hA hρ hopA (fun j => by simp)
      have hsub : ∀ j o, look j h = some o → look j (hc id (.arr 0 sz rows) h) = some o := fun j o hj => by
        have : ¬ id = j := fun e => hA (e ▸ (S.obj j o hj).1)
        simp [look_hc, this, hj]
      have S2 : SatH (G'.frz (hc id (.arr 0 sz rows) h) (fun k => k = id)) w' A' h := freezeHeap S' hsub (fun j o hj e => hA (e ▸ (S.obj j o hj).1)) (fun j o hj => (S.obj j o hj).1) (fun j o hj => (S.obj j o hj).2.refs)
      refine ⟨n, x, w', _, h1, h2, S2, ⟨E'.os, E'.tape, E'.output, E'.size, E'.frame, fun b hb => ?_, fun b hb => ?_, fun _ h => h, fun v x hv => Rel.restrict hv.refs (fun _ h => h) hsub ((E'.rel v x hv).frz _ _)⟩, ?_⟩
      · obtain ⟨i, o, a, hi, hloc, he⟩ := hb
        exact E'.prov b ⟨i, o, a, hsub i o hi, hloc, he⟩
      · rcases hb with hb | ⟨i, o, a, _, hl, hloc, he⟩
        · exact E'.zprov b hb
        · rcases E'.prov b ⟨i, o, a, hl, hloc, he⟩ with h3 | h3
          · exact .inr (.inl h3)
          · exact .inr (.inr h3)
      · exact freezeVal S' (fun j hj hne => hj.resolve_right hne) hsub (.own (L := rows) rfl (by simp [look_hc]) hn rfl) R'
    | _ => rw [hop] at hv; simp at hv

theorem opD_eff {fl : Bool} {P : Program} {h : Heap} {id : Nat} {ρ : Operand → AV} {op : Op} {v : AV} {h' : Heap} {fr : Bool} (hv : opD fl P h id ρ op = some (v, h', fr)) :
    ∃ e, h' = Eff.app e h ∧ (∀ i o, e = .new i o → i = id) ∧ (∀ k o, e = .set k o → opWr op = true ∧ (∃ x ∈ op.operands, topId (ρ x) = some k)) ∧
      ∀ h2, ((opRd op || opWr op) = true → ∀ x ∈ op.operands, SameAt h h2 (ρ x)) → opD fl P h2 id ρ op = some (v, e.app h2, fr) := by
  cases fl with
  | false =>
    obtain ⟨e, he⟩ := opA_eff hv
    exact ⟨e, he.app, he.new, fun k o hk => ⟨(he.set k o hk).1, (he.set k o hk).2.1⟩, he.loc⟩
  | true =>
    unfold opD at hv
    cases op with
    | buildSlice t len parts =>
      simp only [Option.map_eq_some_iff, Prod.mk.injEq] at hv
      obtain ⟨v0, hv0, rfl, rfl, rfl⟩ := hv
      exact ⟨.none, rfl, fun _ _ e => (by cases e), fun _ _ e => (by cases e), fun h2 _ => by simp [opD, hv0, Eff.app]⟩
    | _ => simp at hv

theorem opD_congr {fl : Bool} {P : Program} {h : Heap} {id : Nat} {ρ ρ' : Operand → AV} {op : Op} (hρ : ∀ x ∈ op.operands, ρ' x = ρ x) : opD fl P h id ρ' op = opD fl P h id ρ op := by
  cases fl with
  | false => exact opA_congr hρ
  | true =>
    cases op with
    | buildSlice t n parts =>
      have : (parts.toList.map fun p => (p.1, ρ' p.2)) = parts.toList.map fun p => (p.1, ρ p.2) := List.map_congr_left fun p hp => by rw [hρ p.2 (by simp only [Op.operands, List.mem_toArray, List.mem_map]; exact ⟨p, hp, rfl⟩)]
      simp only [opD, this]
    | _ => rfl

def Out (C : Ctx) (all : Array Oper) (id : Nat) (fl : Bool) (o : Oper) (σ σ' : AS) : Prop :=
  ∃ t : Bool, GuardT all σ o t ∧ ((t = false ∧ σ' = σ.put o.dst (.sc undef)) ∨ (t = true ∧ match callOf o.op with
    | some (f, args) => ∃ r, PureCall C.P σ.heap (σ.ev f) (args.map σ.ev) r ∧ σ' = σ.put o.dst r
    | none => nilCmp C.P o.op = none ∧ ∃ r, opD fl C.P σ.heap id σ.ev o.op = some r ∧ σ' = { (σ.put o.dst r.1) with heap := r.2.1 }))

theorem xd_out {C : Ctx} {all : Array Oper} {L : Loc} {base i : Nat} {o : Oper} {rest : List Oper} {σ : AS} {K : AS → Prop} (h : XD C all L base i (o :: rest) σ K) : ∃ σ', (locOk L.cl (L.loc.getD i 0) o σ ∧ Out C all (base + i) (L.frz.getD i false) o σ σ') ∧ XD C all L base (i + 1) rest σ' K := by
  unfold XD at h
  obtain ⟨hloc, t, hg, h1, h2⟩ := h
  cases t with
  | false => exact ⟨_, ⟨hloc, ⟨false, hg, .inl ⟨rfl, rfl⟩⟩⟩, h1 rfl⟩
  | true =>
    have h3 := h2 rfl
    cases hc : callOf o.op with
    | none =>
      simp only [hc] at h3
      obtain ⟨h4, r, h5, h6⟩ := h3
      exact ⟨_, ⟨hloc, ⟨true, hg, .inr ⟨rfl, by simp only [hc]; exact ⟨h4, r, h5, rfl⟩⟩⟩⟩, h6⟩
    | some fa =>
      obtain ⟨f, args⟩ := fa
      simp only [hc] at h3
      obtain ⟨r, h4, h6⟩ := h3
      exact ⟨_, ⟨hloc, ⟨true, hg, .inr ⟨rfl, by simp only [hc]; exact ⟨r, h4, rfl⟩⟩⟩⟩, h6⟩

theorem callOf_spec {op : Op} {f : Operand} {args : List Operand} (h : callOf op = some (f, args)) : ∃ args' tys, op = .call { callee := .value f, args := args', argTypes := tys } ∧ args = args'.toList := by
  unfold callOf at h
  split at h
  · rename_i f' a' t' heq
    cases h
    exact ⟨_, _, rfl, rfl⟩
  · cases h

section
variable {C : Ctx} {O : Orig} {l : Option Nat} {all : Array Oper}

theorem guard_sound {G : Gh} {A : Nat → Prop} {σ : AS} {a : Act} {w : World} (k : OkA C O l G A σ a w) (hall : all.toList.all (opOk C.nt) = true) {o : Oper} {t : Bool} (hg : GuardT all σ o t) : Region.wanted o (yielded all a.tmps) = t := by
  unfold Region.wanted
  unfold GuardT at hg
  cases hgd : o.guard with
  | none => rw [hgd] at hg; exact hg.symm
  | some jw =>
    obtain ⟨j, want⟩ := jw
    rw [hgd] at hg
    rcases hg with ⟨b, hb, ht⟩ | ⟨hb, ht⟩
    · simp only
      rw [gv_sound k hall hb, ht]
      cases b <;> cases want <;> rfl
    · simp only
      rw [gv_undef k hb, ht]
      rfl

/-- A state that some machine is in. -/
def Real (C : Ctx) (A : Nat → Prop) (σ : AS) : Prop := ∃ O l G a w, OkA C O l G A σ a w

theorem Real.reach {A : Nat → Prop} {σ : AS} (r : Real C A σ) (x : Operand) {k : Nat} (ht : Reach σ.heap (σ.ev x) k) : A k := by
  obtain ⟨O, l, G, a, w, ok⟩ := r
  exact ht A (ok.ev x).refs fun j o _ hl => (ok.sat.obj j o hl).2.refs

theorem Real.refs {A : Nat → Prop} {σ : AS} (r : Real C A σ) (x : Operand) {k : Nat} (ht : topId (σ.ev x) = some k) : A k := by
  obtain ⟨O, l, G, a, w, ok⟩ := r
  exact (ok.ev x).refs.top ht

theorem Out.sound {fl : Bool} {G : Gh} {A A' : Nat → Prop} {σ σ' : AS} {a : Act} {w : World} (k : OkA C O l G A σ a w) (hall : all.toList.all (opOk C.nt) = true) {o : Oper} (hok : opOk C.nt o = true) {id : Nat} (hA : ¬ A id)
    (hA' : ∀ j, A' j ↔ A j ∨ j = id) {m : Nat} (hm : ∀ j, A j → j < m) (h : Out C all id fl o σ σ') {K : Act → World → Prop} {Q' : Exit → Act → World → Prop} (hK : ∀ a' w' G', OkA C O l G' A' σ' a' w' → K a' w') :
    if Region.wanted o (yielded all a.tmps) then o.wpIn (Fw l) 0 C.P a w K Q' else (∀ f, o.about C.P w a.eval = some f → (Fw l).fn f) ∧ K (a.put o.dst undef) w := by
  obtain ⟨t, hg, h⟩ := h
  rw [guard_sound k hall hg]
  have hsub : ∀ j, A j → A' j := fun j hj => (hA' j).2 (.inl hj)
  rcases h with ⟨rfl, rfl⟩ | ⟨rfl, h⟩
  · simp only [Bool.false_eq_true, if_false]
    exact ⟨fun _ _ => trivial, hK _ _ G ((k.put (opOk_dst hok) (.sc ..)).wide hsub)⟩
  · simp only [if_true]
    refine ⟨fun _ _ => trivial, ?_⟩
    cases hc : callOf o.op with
    | some fa =>
      obtain ⟨f, args⟩ := fa
      simp only [hc] at h
      obtain ⟨r, hp, rfl⟩ := h
      obtain ⟨args', tys, ho, rfl⟩ := callOf_spec hc
      have hsem : o.semAt (Fw l).round a.eval = execOp a.eval o := Oper.semAt_eq _ _ _ (fun c => by rw [ho]; simp)
      have hcall := k.pureCall hp hm (opOk_dst hok)
      have harr : (args'.toList.map a.eval).toArray = args'.map a.eval := by apply Array.ext'; simp
      rw [harr] at hcall
      have hexec : (execOp a.eval o).run C.P w = (do let d ← Deferred.ofValue (a.eval f) (args'.map a.eval); invoke d.target d.args : Sem Next).run C.P w := by
        simp only [execOp, ho]
        exact run_call
      have fin : ∀ (e : Ending) (w' : World), (∃ x G', e = .returned x ∧ OkA C O l G' A (σ.put o.dst r) (a.put o.dst x) w') → (match e, w' with
          | .returned v, w' => K (a.put o.dst v) w'
          | .panicked chain, w' => Q' (.panic chain) a w'
          | .outgrown, _ => LetsOut Q') := by
        intro e w' hl
        obtain ⟨x, G', rfl, k'⟩ := hl
        exact hK _ _ G' (k'.wide hsub)
      rw [hsem, hexec]
      rcases hcall with ⟨g, as, h1, h2⟩ | ⟨l', g, tmps, as, body, h1, h2⟩
      · rw [h1]
        refine ⟨fun hd => by simp [Fw, Fence.wide] at hd, ?_⟩
        have h3 := callsIn_wide (n := 0) |>.2 h2
        exact CallsIn.mono (F := Fw l) h3 (fun e w' hl => fin e w' hl)
      · rw [h1]
        refine ⟨fun hd => by simp [Fw, Fence.wide] at hd, ?_⟩
        exact RoundIn.mono (F := Fw l) h2 (fun e w' hl => fin e w' hl)
    | none =>
      simp only [hc] at h
      obtain ⟨_, ⟨v, h', fr⟩, hop, rfl⟩ := h
      have hsem : o.semAt (Fw l).round a.eval = execOp a.eval o := Oper.semAt_eq _ _ _ (opD_notDefer hop)
      obtain ⟨n, x, w', G', h1, h2, S', E', R'⟩ := opD_sound k.sat (A' := fun j => A j ∨ (fr = true ∧ j = id)) hA k.ev hop (fun _ => Iff.rfl)
      have hsub2 : ∀ j, (A j ∨ (fr = true ∧ j = id)) → A' j := fun j hj => (hA' j).2 (hj.imp (fun h => h) fun h => h.2)
      have k' := (k.step (opOk_dst hok) S' E' R' σ.next).wide hsub2
      have e : { (σ.put o.dst v) with heap := h', next := σ.next } = ({ (σ.put o.dst v) with heap := h' } : AS) := by cases o.dst <;> rfl
      rw [e] at k'
      rw [hsem, h1]
      rcases h2 with rfl | ⟨rfl, rfl⟩
      · exact hK _ _ G' k'
      · exact hK _ _ G' k'

theorem Out.real {fl : Bool} {A A' : Nat → Prop} {σ σ' : AS} (hr : Real C A σ) {o : Oper} (hok : opOk C.nt o = true) {id : Nat} (hA : ¬ A id)
    (hA' : ∀ j, A' j ↔ A j ∨ j = id) {m : Nat} (hm : ∀ j, A j → j < m) (h : Out C all id fl o σ σ') : Real C A' σ' := by
  obtain ⟨O, l, G, a, w, k⟩ := hr
  obtain ⟨t, hg, h⟩ := h
  have hsub : ∀ j, A j → A' j := fun j hj => (hA' j).2 (.inl hj)
  rcases h with ⟨rfl, rfl⟩ | ⟨rfl, h⟩
  · exact ⟨O, l, G, _, w, (k.put (x := undef) (opOk_dst hok) (.sc ..)).wide hsub⟩
  · cases hc : callOf o.op with
    | some fa =>
      obtain ⟨f, args⟩ := fa
      simp only [hc] at h
      obtain ⟨r, hp, rfl⟩ := h
      obtain ⟨e, w', x, G', _, k'⟩ := (k.pureCall hp hm (opOk_dst hok)).ends
      exact ⟨O, l, G', _, w', k'.wide hsub⟩
    | none =>
      simp only [hc] at h
      obtain ⟨_, ⟨v, h', fr⟩, hop, rfl⟩ := h
      obtain ⟨n, x, w', G', h1, h2, S', E', R'⟩ := opD_sound (o := o) k.sat (A' := fun j => A j ∨ (fr = true ∧ j = id)) hA k.ev hop (fun _ => Iff.rfl)
      have hsub2 : ∀ j, (A j ∨ (fr = true ∧ j = id)) → A' j := fun j hj => (hA' j).2 (hj.imp (fun h => h) fun h => h.2)
      have k' := (k.step (opOk_dst hok) S' E' R' σ.next).wide hsub2
      have e : { (σ.put o.dst v) with heap := h', next := σ.next } = ({ (σ.put o.dst v) with heap := h' } : AS) := by cases o.dst <;> rfl
      rw [e] at k'
      exact ⟨O, l, G', _, w', k'⟩

/-! ### Two operations, the other way round -/

/-- The objects on which an operation leans by an operand. -/
def Leads (o : Oper) (σ : AS) (x : Operand) (k : Nat) : Prop := (callOf o.op = none ∧ topId (σ.ev x) = some k) ∨ (callOf o.op ≠ none ∧ Reach σ.heap (σ.ev x) k)

theorem Leads.reach {o : Oper} {σ : AS} {x : Operand} {k : Nat} (h : Leads o σ x k) : Reach σ.heap (σ.ev x) k := by
  rcases h with h | h
  · exact fun A hA _ => hA.top h.2
  · exact h.2

theorem Out.eff {fl : Bool} {id : Nat} {o : Oper} {σ σ' : AS} (h : Out C all id fl o σ σ') : ∃ v e, σ' = { (σ.put o.dst v) with heap := Eff.app e σ.heap } ∧ (∀ i ob, e = .new i ob → i = id) ∧
    (∀ k ob, e = .set k ob → opWr o.op = true ∧ (∃ x ∈ o.op.operands, topId (σ.ev x) = some k)) ∧
    ∀ σ2 : AS, (∀ x ∈ o.op.operands, σ2.ev x = σ.ev x) → (∀ t, GuardT all σ o t → GuardT all σ2 o t) → ((opRd o.op || opWr o.op) = true → ∀ x ∈ o.op.operands, ∀ k, Leads o σ x k → look k σ2.heap = look k σ.heap) →
      Out C all id fl o σ2 { (σ2.put o.dst v) with heap := Eff.app e σ2.heap } := by
  have eta : ∀ (σ : AS) (v : AV), ({ (σ.put o.dst v) with heap := σ.heap } : AS) = σ.put o.dst v := fun σ v => by cases o.dst <;> rfl
  obtain ⟨t, hg, h⟩ := h
  rcases h with ⟨rfl, rfl⟩ | ⟨rfl, h⟩
  · refine ⟨.sc undef, .none, (eta σ _).symm, fun _ _ e => (by cases e), fun _ _ e => (by cases e), fun σ2 hx hg2 _ => ⟨false, hg2 _ hg, .inl ⟨rfl, eta σ2 _⟩⟩⟩
  · cases hc : callOf o.op with
    | some fa =>
      obtain ⟨f, args⟩ := fa
      simp only [hc] at h
      obtain ⟨r, hp, rfl⟩ := h
      refine ⟨r, .none, (eta σ _).symm, fun _ _ e => (by cases e), fun _ _ e => (by cases e), fun σ2 hx hg2 hs => ⟨true, hg2 _ hg, .inr ⟨rfl, ?_⟩⟩⟩
      simp only [hc]
      obtain ⟨args', tys, ho, rfl⟩ := callOf_spec hc
      have hs' := hs (by rw [ho]; rfl)
      have e1 : σ2.ev f = σ.ev f := hx f (by rw [ho]; simp [Op.operands, Call.operands])
      have e2 : args'.toList.map σ2.ev = args'.toList.map σ.ev := List.map_congr_left fun y hy => hx y (by rw [ho]; simp [Op.operands, Call.operands, hy, Array.mem_toList_iff.1 hy])
      refine ⟨r, ⟨hp.1, fun h' nx K' hh => ?_⟩, eta σ2 _⟩
      rw [e1, e2]
      refine hp.2 h' nx K' fun k hk => ?_
      have tr : ∀ x ∈ o.op.operands, Reach σ.heap (σ.ev x) k → Reach σ2.heap (σ.ev x) k ∧ look k σ2.heap = look k σ.heap := fun x hx hr => by
        refine ⟨fun A hA hcl => ?_, hs' x hx k (.inr ⟨by simp [hc], hr⟩)⟩
        have := hr (fun j => A j ∧ Reach σ.heap (σ.ev x) j) (Refs.both hA (Refs.reach σ.heap (σ.ev x))) fun j ob hj hl => ?_
        · exact this.1
        · have h2 := hs' x hx j (.inr ⟨by simp [hc], hj.2⟩)
          exact ORefs.both (hcl j ob hj.1 (by rw [h2]; exact hl)) (ORefs.reach hj.2 hl)
      rcases hk with hk | ⟨a, ha, hk⟩
      · have h3 := tr f (by rw [ho]; simp [Op.operands, Call.operands]) hk
        rw [hh k (.inl (by rw [e1]; exact h3.1)), h3.2]
      · obtain ⟨y, hy, rfl⟩ := List.mem_map.1 ha
        have h3 := tr y (by rw [ho]; simp [Op.operands, Call.operands, Array.mem_toList_iff.1 hy]) hk
        rw [hh k (.inr ⟨_, List.mem_map.2 ⟨y, hy, rfl⟩, by rw [hx y (by rw [ho]; simp [Op.operands, Call.operands, Array.mem_toList_iff.1 hy])]; exact h3.1⟩), h3.2]
    | none =>
      simp only [hc] at h
      obtain ⟨hnil, ⟨v, h', fr⟩, hop, rfl⟩ := h
      obtain ⟨e, he1, he2, he3, he4⟩ := opD_eff hop
      refine ⟨v, e, by rw [← he1], he2, he3, fun σ2 hx hg2 hs => ⟨true, hg2 _ hg, .inr ⟨rfl, ?_⟩⟩⟩
      simp only [hc]
      refine ⟨hnil, (v, e.app σ2.heap, fr), ?_, rfl⟩
      rw [opD_congr (ρ := σ.ev) hx]
      exact he4 σ2.heap fun hrw x hxm k hk => hs hrw x hxm k (.inl ⟨hc, hk⟩)

theorem hc_comm {α : Type} {i j : Nat} (hij : i ≠ j) (x y : α) (h : Tab α) : hc i x (hc j y h) = hc j y (hc i x h) := by
  funext k
  change look k (hc i x (hc j y h)) = look k (hc j y (hc i x h))
  simp only [look_hc]
  by_cases h1 : i = k
  · subst h1; simp [Ne.symm hij]
  · simp [h1]

theorem hc_upd {α : Type} {i k : Nat} (hik : k ≠ i) (x y : α) (h : Tab α) : hc i x (upd k y h) = upd k y (hc i x h) := by
  funext j
  change look j (hc i x (upd k y h)) = look j (upd k y (hc i x h))
  simp only [look_hc, look_upd]
  by_cases h1 : i = j
  · subst h1; simp [Ne.symm hik]
  · by_cases h2 : j = k
    · subst h2; simp [h1]
    · simp [h1, h2]

theorem ev_put_ne {σ : AS} {d : Option Tmp} {v : AV} {h : Heap} {x : Operand} (hx : ∀ t, d = some t → x ≠ .tmp t) : ({ (σ.put d v) with heap := h } : AS).ev x = σ.ev x := by
  cases d with
  | none => cases x <;> rfl
  | some t =>
    cases x with
    | tmp u =>
      have : t ≠ u := fun e => hx t rfl (by rw [e])
      simp [AS.ev, AS.put, look_hc, this]
    | _ => rfl

theorem guard_put {σ : AS} {d : Option Tmp} {v : AV} {h : Heap} {o : Oper} (hd : ∀ t, d = some t → t ∉ o.looksAt all) (t : Bool) : GuardT all ({ (σ.put d v) with heap := h } : AS) o t ↔ GuardT all σ o t := by
  unfold GuardT
  cases hg : o.guard with
  | none => exact Iff.rfl
  | some jw =>
    obtain ⟨j, want⟩ := jw
    have : gv all ({ (σ.put d v) with heap := h } : AS) j = gv all σ j := by
      unfold gv
      cases hb : (all[j]?).bind (·.dst) with
      | none => rfl
      | some u =>
        refine ev_put_ne fun t ht e => ?_
        cases e
        refine hd _ ht ?_
        unfold Oper.looksAt
        simp [hg, hb]
    simp only [this]

theorem not_looks {o : Oper} {d : Tmp} (h : d ∉ o.looksAt all) {x : Operand} (hx : x ∈ o.op.operands) : x ≠ .tmp d := by
  intro e
  subst e
  refine h (List.mem_append_left _ (List.mem_filterMap.2 ⟨.tmp d, by simpa using hx, rfl⟩))

theorem look_upd_ne {α : Type} {i j : Nat} {x : α} {h : Tab α} (hn : i ≠ j) : look j (upd i x h) = look j h := by
  simp only [look_upd]
  exact if_neg (Ne.symm hn)

theorem upd_comm {α : Type} {i k : Nat} (hik : i ≠ k) (x y : α) (h : Tab α) : upd i x (upd k y h) = upd k y (upd i x h) := by
  funext j
  change look j (upd i x (upd k y h)) = look j (upd k y (upd i x h))
  simp only [look_upd]
  by_cases h1 : j = i
  · subst h1; simp [hik]
  · by_cases h2 : j = k
    · subst h2; simp [h1]
    · simp [h1, h2]

theorem Out.swap {fi fj : Bool} {A : Nat → Prop} {σ σi σij : AS} (hr : Real C A σ) {i j : Nat} (hij : i ≠ j) (hi : ¬ A i) (hj : ¬ A j) {oi oj : Oper} (hap : oi.apart all oj = true) (hcl : clash oi.op oj.op = false ∨ ∃ cl : Nat → Nat, ∃ ci cj : Nat, ci ≠ cj ∧ callOf oi.op = none ∧ callOf oj.op = none ∧ (∀ x ∈ oi.op.operands, topOk cl ci (σ.ev x)) ∧ ∀ x ∈ oj.op.operands, topOk cl cj (σi.ev x))
    (h1 : Out C all i fi oi σ σi) (h2 : Out C all j fj oj σi σij) : ∃ σj, Out C all j fj oj σ σj ∧ Out C all i fi oi σj σij := by
  obtain ⟨ap1, ap2, ap3⟩ := Oper.apart_spec hap
  obtain ⟨vi, ei, rfl, newi, seti, stabi⟩ := h1.eff
  obtain ⟨vj, ej, rfl, newj, setj, stabj⟩ := h2.eff
  have evj : ∀ x ∈ oj.op.operands, ({ (σ.put oi.dst vi) with heap := ei.app σ.heap } : AS).ev x = σ.ev x := fun x hx => ev_put_ne fun t ht => not_looks (ap1 t ht) hx
  have cl1 : ∀ k ob, ei = .set k ob → (opRd oj.op || opWr oj.op) = true → ∀ x ∈ oj.op.operands, ∀ k2, Leads oj { (σ.put oi.dst vi) with heap := ei.app σ.heap } x k2 → k ≠ k2 := fun k ob he hrw x hx k2 hl => by
    obtain ⟨hw, y, hy, hk⟩ := seti k ob he
    rcases hcl with hcl | ⟨cl, ci, cj, hne, hn1, hn2, hi2, hj2⟩
    · unfold clash at hcl
      simp only [hw, hrw, Bool.true_and, Bool.true_or] at hcl
      cases hcl
    · rcases hl with hl | hl
      · intro e
        subst e
        exact hne ((hi2 y hy k hk).symm.trans (hj2 x hx k hl.2))
      · exact absurd hn2 hl.1
  have cl2 : ∀ k ob, ej = .set k ob → (opRd oi.op || opWr oi.op) = true → ∀ x ∈ oi.op.operands, ∀ k2, Leads oi σ x k2 → k ≠ k2 := fun k ob he hrw x hx k2 hl => by
    obtain ⟨hw, y, hy, hk⟩ := setj k ob he
    rcases hcl with hcl | ⟨cl, ci, cj, hne, hn1, hn2, hi2, hj2⟩
    · unfold clash at hcl
      simp only [hw, hrw, Bool.true_and, Bool.or_true] at hcl
      cases hcl
    · rcases hl with hl | hl
      · intro e
        subst e
        exact hne ((hi2 x hx k hl.2).symm.trans (hj2 y hy k hk))
      · exact absurd hn1 hl.1
  have oj' := stabj σ (fun x hx => (evj x hx).symm) (fun t ht => (guard_put ap1 t).1 ht) (fun hrw x hx k hk0 => by
    have hk := hk0.reach
    rw [evj x hx] at hk
    have hset : ∀ n ob, ei = .set n ob → n ≠ k := fun n ob he => cl1 n ob he hrw x hx k hk0
    by_cases hes : ∃ n ob, ei = .set n ob
    · obtain ⟨n, ob, he⟩ := hes
      simp only [he, Eff.app]
      exact (look_upd_ne (hset n ob he)).symm
    have hAk : A k := by
      obtain ⟨O, l, G, a, w, ok⟩ := hr
      refine hk A (ok.ev x).refs fun j' o' hj' hl' => ?_
      simp only at hl'
      cases he : ei with
      | none => rw [he] at hl'; exact (ok.sat.obj j' o' hl').2.refs
      | new n ob =>
        rw [he] at hl'
        have := newi n ob he
        subst this
        simp only [Eff.app, look_hc] at hl'
        have : ¬ n = j' := fun e => hi (e ▸ hj')
        simp only [this, if_false] at hl'
        exact (ok.sat.obj j' o' hl').2.refs
      | set n ob => exact absurd ⟨n, ob, he⟩ hes
    simp only
    cases he : ei with
    | none => rfl
    | new n ob =>
      have := newi n ob he
      subst this
      simp only [Eff.app, look_hc]
      have : ¬ n = k := fun e => hi (e ▸ hAk)
      simp [this]
    | set n ob => exact absurd ⟨n, ob, he⟩ hes)
  refine ⟨_, oj', ?_⟩
  have evi : ∀ x ∈ oi.op.operands, ({ (σ.put oj.dst vj) with heap := ej.app σ.heap } : AS).ev x = σ.ev x := fun x hx => ev_put_ne fun t ht => not_looks (ap3 t ht) hx
  have oi' := stabi _ evi (fun t ht => (guard_put ap3 t).2 ht) (fun hrw x hx k hk0 => by
    have hk := hk0.reach
    have hAk := hr.reach x hk
    simp only
    cases he : ej with
    | none => rfl
    | new n ob =>
      have := newj n ob he
      subst this
      simp only [Eff.app, look_hc]
      have : ¬ n = k := fun e => hj (e ▸ hAk)
      simp [this]
    | set n ob => exact (look_upd_ne (cl2 n ob he hrw x hx k hk0)))
  have hheap : ei.app (ej.app σ.heap) = ej.app (ei.app σ.heap) := by
    cases he : ei with
    | none => rfl
    | new n ob =>
      have := newi n ob he
      subst this
      cases he2 : ej with
      | none => rfl
      | new n2 ob2 =>
        have := newj n2 ob2 he2
        subst this
        exact hc_comm hij _ _ _
      | set k ob2 =>
        obtain ⟨_, x, hx, hk⟩ := setj k ob2 he2
        rw [evj x hx] at hk
        have hAk := hr.refs x hk
        exact hc_upd (fun e => hi (by rw [← e]; exact hAk)) _ _ _
    | set k ob =>
      cases he2 : ej with
      | none => rfl
      | new n2 ob2 =>
        have := newj n2 ob2 he2
        subst this
        obtain ⟨_, x, hx, hk⟩ := seti k ob he
        have hAk := hr.refs x hk
        exact (hc_upd (fun e => hj (by rw [← e]; exact hAk)) _ _ _).symm
      | set k2 ob2 =>
        obtain ⟨hw2, x, hx, hk⟩ := setj k2 ob2 he2
        rcases hcl with hcl | ⟨cl, ci, cj, hne, hn1, hn2, hi2, hj2⟩
        · unfold clash at hcl
          simp [hw2, (seti k ob he).1] at hcl
        · obtain ⟨_, y, hy, hk'⟩ := seti k ob he
          have hkk : k ≠ k2 := fun e => by
            subst e
            exact hne ((hi2 y hy k hk').symm.trans (hj2 x hx k hk))
          exact upd_comm hkk _ _ _
  have hst : ({ (({ (σ.put oj.dst vj) with heap := ej.app σ.heap } : AS).put oi.dst vi) with heap := ei.app (ej.app σ.heap) } : AS) = { (({ (σ.put oi.dst vi) with heap := ei.app σ.heap } : AS).put oj.dst vj) with heap := ej.app (ei.app σ.heap) } := by
    rw [hheap]
    cases hdi : oi.dst with
    | none => cases oj.dst <;> rfl
    | some d =>
      cases hdj : oj.dst with
      | none => rfl
      | some d' =>
        have hne : d ≠ d' := fun e => ap2 d hdi (by rw [hdj, e])
        simp only [AS.put, hc_comm hne]
  rw [← hst]
  exact oi'

/-! ### Every order -/

def OutL (C : Ctx) (all : Array Oper) (L : Loc) (base i : Nat) (o : Oper) (σ σ' : AS) : Prop := locOk L.cl (L.loc.getD i 0) o σ ∧ Out C all (base + i) (L.frz.getD i false) o σ σ'

def AnyD (C : Ctx) (all : Array Oper) (L : Loc) (base : Nat) (K : AS → Prop) : Nat → Array Bool → AS → Prop
  | 0, listed, σ => Region.ready .any all listed = [] ∧ K σ
  | n + 1, listed, σ => (Region.ready .any all listed = [] → K σ) ∧ ∀ i ∈ Region.ready .any all listed, ∀ o, all[i]? = some o → ∃ σ', OutL C all L base i o σ σ' ∧ AnyD C all L base K n (listed.setIfInBounds i true) σ'

theorem farL_spec {loc : List Nat} {i j : Nat} (h : farL loc i j = true) : loc.getD i 0 ≠ 0 ∧ loc.getD j 0 ≠ 0 ∧ loc.getD i 0 ≠ loc.getD j 0 := by
  unfold farL at h
  simp only [Bool.and_eq_true, Bool.not_eq_true', beq_eq_false_iff_ne] at h
  exact ⟨h.1, h.2.1, h.2.2⟩

theorem locOk.congr {cl : Nat → Nat} {c : Nat} {o : Oper} {σ σ2 : AS} (h : locOk cl c o σ) (he : ∀ x ∈ o.op.operands, σ2.ev x = σ.ev x) : locOk cl c o σ2 := by
  rcases h with h | ⟨h1, h2⟩
  · exact .inl h
  · exact .inr ⟨h1, fun x hx => by rw [he x hx]; exact h2 x hx⟩

theorem Out.frame {fl : Bool} {id : Nat} {o p : Oper} {σ σ' : AS} (h : Out C all id fl o σ σ') (hd : ∀ t, o.dst = some t → t ∉ p.looksAt all) : ∀ x ∈ p.op.operands, σ'.ev x = σ.ev x := by
  obtain ⟨v, e, rfl, _⟩ := h.eff
  intro x hx
  exact ev_put_ne fun t ht => not_looks (hd t ht) hx

theorem OutL.swap {A : Nat → Prop} {L : Loc} {σ σi σij : AS} {base : Nat} (hr : Real C A σ) {i j : Nat} (hij : i ≠ j) (hi : ¬ A (base + i)) (hj : ¬ A (base + j)) {oi oj : Oper} (hap : oi.apart all oj = true) (hcl : clash oi.op oj.op = false ∨ farL L.loc i j = true)
    (h1 : OutL C all L base i oi σ σi) (h2 : OutL C all L base j oj σi σij) : ∃ σj, OutL C all L base j oj σ σj ∧ OutL C all L base i oi σj σij := by
  obtain ⟨ap1, ap2, ap3⟩ := Oper.apart_spec hap
  have e1 := h1.2.frame (p := oj) ap1
  have hcl' : clash oi.op oj.op = false ∨ ∃ cl : Nat → Nat, ∃ ci cj : Nat, ci ≠ cj ∧ callOf oi.op = none ∧ callOf oj.op = none ∧ (∀ x ∈ oi.op.operands, topOk cl ci (σ.ev x)) ∧ ∀ x ∈ oj.op.operands, topOk cl cj (σi.ev x) := by
    rcases hcl with h | h
    · exact .inl h
    · obtain ⟨n1, n2, n3⟩ := farL_spec h
      rcases h1.1 with h3 | h3
      · exact absurd h3 n1
      · rcases h2.1 with h4 | h4
        · exact absurd h4 n2
        · exact .inr ⟨L.cl, _, _, n3, h3.1, h4.1, h3.2, h4.2⟩
  obtain ⟨σj, g1, g2⟩ := Out.swap hr (by omega) hi hj hap hcl' h1.2 h2.2
  exact ⟨σj, ⟨h2.1.congr fun x hx => (e1 x hx).symm, g1⟩, ⟨h1.1.congr (g1.frame (p := oi) ap3), g2⟩⟩

/-- What is listed has all ahead of it listed. -/
def Down (all : Array Oper) (listed : Array Bool) : Prop := ∀ k o, all[k]? = some o → listed.getD k false = true → ∀ e ∈ o.after, Region.binds .any e = true → listed.getD e.on false = true

theorem Down.set {listed : Array Bool} {i : Nat} (d : Down all listed) (hi : i ∈ Region.ready .any all listed) : Down all (listed.setIfInBounds i true) := by
  intro k o hk hl e he hb
  refine getD_set_true ?_
  by_cases hik : i = k
  · subst hik
    obtain ⟨_, o', ho', h3⟩ := mem_ready.1 hi
    rw [hk] at ho'
    cases ho'
    exact h3 e he hb
  · rw [getD_set_ne false hik] at hl
    exact d k o hk hl e he hb

theorem Down.bef {listed : Array Bool} {i : Nat} (d : Down all listed) (hi : listed.getD i false = false) : ∀ (n j : Nat), (∀ o, all[j]? = some o → ∀ e ∈ o.after, Region.binds .any e = true → listed.getD e.on false = true) → bef all n i j = false
  | 0, _, _ => rfl
  | n + 1, j, h => by
    unfold Go.Abs.bef
    cases hj : all[j]? with
    | none => rfl
    | some oj =>
      simp only
      rw [Bool.eq_false_iff]
      intro hany
      obtain ⟨e, he, hb⟩ := Array.any_eq_true'.1 hany
      simp only [Bool.and_eq_true, Bool.or_eq_true, beq_iff_eq] at hb
      have h1 := h oj hj e he hb.1
      rcases hb.2 with hb2 | hb2
      · rw [hb2, hi] at h1; cases h1
      · rw [d.bef hi n e.on fun o ho e' he' hb' => d e.on o ho h1 e' he' hb'] at hb2
        cases hb2

theorem unlisted_false {listed : Array Bool} {i : Nat} (h : listed.getD i true = false) : listed.getD i false = false := by
  rcases Nat.lt_or_ge i listed.size with q | q
  · simpa [q] using h
  · simp [Array.getElem?_eq_none q]

/-- The numbers in use. -/
def live (base : Nat) (listed : Array Bool) : Nat → Prop := fun j => j < base ∨ ∃ i, listed.getD i false = true ∧ j = base + i

theorem live_set {base : Nat} {listed : Array Bool} {i : Nat} (hi : i < listed.size) (j : Nat) : live base (listed.setIfInBounds i true) j ↔ live base listed j ∨ j = base + i := by
  unfold live
  constructor
  · rintro (h | ⟨k, hk, rfl⟩)
    · exact .inl (.inl h)
    · by_cases e : i = k
      · subst e; exact .inr rfl
      · rw [getD_set_ne false e] at hk
        exact .inl (.inr ⟨k, hk, rfl⟩)
  · rintro ((h | ⟨k, hk, rfl⟩) | rfl)
    · exact .inl h
    · exact .inr ⟨k, getD_set_true hk, rfl⟩
    · exact .inr ⟨i, by simp [hi], rfl⟩

theorem live_lt {base : Nat} {listed : Array Bool} (j : Nat) (h : live base listed j) : j < base + listed.size := by
  rcases h with h | ⟨i, hi, rfl⟩
  · omega
  · rcases Nat.lt_or_ge i listed.size with q | q
    · omega
    · simp [Array.getElem?_eq_none q] at hi

theorem live_not {base : Nat} {listed : Array Bool} {i : Nat} (h : listed.getD i true = false) : ¬ live base listed (base + i) := by
  rintro (h1 | ⟨k, hk, e⟩)
  · omega
  · have : k = i := by omega
    subst this
    rcases Nat.lt_or_ge k listed.size with q | q
    · simp [q] at h hk
      rw [h] at hk
      cases hk
    · simp [Array.getElem?_eq_none q] at hk

theorem unlisted_lt {listed : Array Bool} {i : Nat} (h : listed.getD i true = false) : i < listed.size := by
  rcases Nat.lt_or_ge i listed.size with q | q
  · exact q
  · simp [Array.getElem?_eq_none q] at h

theorem AnyD_first {L : Loc} {base : Nat} {K : AS → Prop} {i : Nat} {oi : Oper} (hi : all[i]? = some oi) (hall : all.toList.all (opOk C.nt) = true) : ∀ (fuel : Nat) (listed : Array Bool) (σ σi : AS), Real C (live base listed) σ → Down all listed →
    (∀ j oj, all[j]? = some oj → j ≠ i → listed.getD j true = false → (∀ e ∈ oj.after, Region.binds .any e = true → e.on ≠ i) → bef all 4 i j = false → oi.apart all oj = true ∧ (clash oi.op oj.op = false ∨ farL L.loc i j = true)) →
    i ∈ Region.ready .any all listed → OutL C all L base i oi σ σi → AnyD C all L base K fuel (listed.setIfInBounds i true) σi → AnyD C all L base K (fuel + 1) listed σ := by
  intro fuel
  induction fuel with
  | zero =>
    intro listed σ σi hreal hdown hfree hr hy H
    refine ⟨fun h => (by rw [h] at hr; cases hr), fun j hj oj hoj => ?_⟩
    by_cases hji : j = i
    · subst hji
      rw [hi] at hoj
      cases hoj
      exact ⟨σi, hy, H⟩
    · have := ready_mono hj hji
      rw [H.1] at this
      cases this
  | succ fuel ih =>
    intro listed σ σi hreal hdown hfree hr hy H
    refine ⟨fun h => (by rw [h] at hr; cases hr), fun j hj oj hoj => ?_⟩
    by_cases hji : j = i
    · subst hji
      rw [hi] at hoj
      cases hoj
      exact ⟨σi, hy, H⟩
    · obtain ⟨σij, h1, h1'⟩ := H.2 j (ready_mono hj hji) oj hoj
      obtain ⟨hjun, oj', hoj', hallj⟩ := mem_ready.1 hj
      rw [hoj] at hoj'
      cases hoj'
      have hiun := (mem_ready.1 hr).1
      have hnot : ∀ e ∈ oj.after, Region.binds .any e = true → e.on ≠ i := fun e he hb heq => by
        have h1 := hallj e he hb
        rw [heq] at h1
        have := unlisted_lt hiun
        simp [this] at hiun h1
        rw [hiun] at h1
        cases h1
      obtain ⟨ha, hc⟩ := hfree j oj hoj hji hjun hnot (hdown.bef (unlisted_false hiun) 4 j fun o ho e he hb => by rw [hoj] at ho; cases ho; exact hallj e he hb)
      obtain ⟨σj, hj1, hj2⟩ := OutL.swap hreal (Ne.symm hji) (live_not hiun) (live_not hjun) ha hc hy h1
      have hokj : opOk C.nt oj = true := List.all_eq_true.1 hall oj (by rw [← Array.getElem?_toList] at hoj; exact List.mem_of_getElem? hoj)
      have hreal' : Real C (live base (listed.setIfInBounds j true)) σj := hj1.2.real hreal hokj (live_not hjun) (live_set (unlisted_lt hjun)) live_lt
      refine ⟨σj, hj1, ih (listed.setIfInBounds j true) σj σij hreal' (hdown.set hj) (fun k ok hk hki hun hno hbf => ?_) (ready_mono hr (Ne.symm hji)) hj2 ?_⟩
      · refine hfree k ok hk hki ?_ hno hbf
        by_cases hjk : j = k
        · subst hjk; exact hjun
        · rw [getD_set_ne true hjk] at hun; exact hun
      · rw [Array.setIfInBounds_comm _ _ hji]
        exact h1'

theorem AnyD_lex {L : Loc} {base : Nat} {K : AS → Prop} (hall : all.toList.all (opOk C.nt) = true)
    (hclash : ∀ i j oi oj, all[i]? = some oi → all[j]? = some oj → i ≠ j → bef all 4 i j = false → bef all 4 j i = false → clash oi.op oj.op = false ∨ farL L.loc i j = true) :
    ∀ (l : List Oper) (k : Nat) (listed : Array Bool) (σ : AS), (∀ j, l[j]? = all[k + j]?) → Region.lexFrom .any all l.length k listed = true → Real C (live base listed) σ → Down all listed → XD C all L base k l σ K → AnyD C all L base K l.length listed σ
  | [], _, _, _, _, hB, _, _, h => ⟨by simpa [Region.lexFrom] using hB, h⟩
  | o :: l, k, listed, σ, hl, hB, hreal, hdown, h => by
    have h0 : all[k]? = some o := by simpa using (hl 0).symm
    simp only [List.length_cons, Region.lexFrom, Bool.and_eq_true] at hB
    obtain ⟨⟨hr, hf⟩, hB'⟩ := hB
    obtain ⟨σ', ho, hx⟩ := xd_out h
    have hr' : k ∈ Region.ready .any all listed := by simpa using hr
    obtain ⟨hkun, o', ho', hallk⟩ := mem_ready.1 hr'
    rw [h0] at ho'
    cases ho'
    have hok : opOk C.nt o = true := List.all_eq_true.1 hall o (by rw [← Array.getElem?_toList] at h0; exact List.mem_of_getElem? h0)
    have hreal' := ho.2.real hreal hok (live_not hkun) (live_set (unlisted_lt hkun)) live_lt
    refine AnyD_first h0 hall l.length listed σ σ' hreal hdown (fun j oj hj hne hun hno hbf => ⟨Region.free_spec h0 hf j oj hj hne hun hno, hclash k j o oj h0 hj (Ne.symm hne) hbf (hdown.bef (unlisted_false hun) 4 k fun o2 ho2 e he hb => ?_)⟩) hr' ho
      (AnyD_lex hall hclash l (k + 1) _ _ (fun j => by have := hl (j + 1); simpa [Nat.add_assoc, Nat.add_comm 1 j] using this) hB' hreal' (hdown.set hr') hx)
    rw [h0] at ho2
    cases ho2
    exact hallk e he hb

theorem AnyD_sound (hall : all.toList.all (opOk C.nt) = true) {L : Loc} {base : Nat} {K : AS → Prop} {Q : Exit → Act → World → Prop} {m : Nat} (hQ : ∀ σ G A a w, (∀ j, A j → j < base + m) → K σ → OkA C O l G A σ a w → Q .normal a w) :
    ∀ (fuel : Nat) (listed : Array Bool) (σ : AS) (G : Gh) (a : Act) (w : World), listed.size = m → OkA C O l G (live base listed) σ a w → AnyD C all L base K fuel listed σ → wpAnyIn (Fw l) 0 C.P .any all Q fuel listed a w
  | 0, listed, σ, G, a, w, hm, k, h => ⟨h.1, hQ σ G _ a w (fun j hj => by rw [← hm]; exact live_lt j hj) h.2 k⟩
  | fuel + 1, listed, σ, G, a, w, hm, k, h => by
    refine ⟨fun h0 => hQ σ G _ a w (fun j hj => by rw [← hm]; exact live_lt j hj) (h.1 h0) k, fun i hi => ?_⟩
    obtain ⟨hiun, o, ho, _⟩ := mem_ready.1 hi
    obtain ⟨σ', h1, h2⟩ := h.2 i hi o ho
    have hok : opOk C.nt o = true := List.all_eq_true.1 hall o (by rw [← Array.getElem?_toList] at ho; exact List.mem_of_getElem? ho)
    unfold wpOpIn
    simp only [ho]
    exact h1.2.sound k hall hok (live_not hiun) (live_set (unlisted_lt hiun)) live_lt fun a' w' G' k' =>
      AnyD_sound hall hQ fuel _ σ' G' a' w' (by simpa using hm) k' h2

/-- A region whose order is open. -/
theorem draw_sound (hm : C.P.follows .mixedOrders = true) (hall : all.toList.all (opOk C.nt) = true) {L : Loc} (hd : drawOk L.loc all = true) {σ : AS} {G : Gh} {a : Act} {w : World} (k : Ok C O l G σ a w) {K : AS → Prop} {id : Nat} {Q : Exit → Act → World → Prop}
    (hx : XD C all L σ.next 0 all.toList σ K) (hQ : ∀ σ' G' A a' w', (∀ j, A j → j < σ.next + all.size) → K σ' → OkA C O l G' A σ' a' w' → Q .normal a' w') : (Code.region id all true).wpIn (Fw l) 0 C.P Q a w := by
  unfold drawOk at hd
  rw [Bool.and_eq_true] at hd
  obtain ⟨hlex, hcl⟩ := hd
  simp only [Region.lexB, Bool.and_eq_true] at hlex
  refine wpIn_region_any hm ?_
  have hlive : ∀ j, live σ.next (Array.replicate all.size false) j ↔ j < σ.next := fun j => by
    unfold live
    constructor
    · rintro (h | ⟨i, hi, _⟩)
      · exact h
      · by_cases e : i < all.size
        · simp [e] at hi
        · simp [e] at hi
    · exact .inl
  obtain ⟨S', E'⟩ := sat_same (w' := { w with drawn := w.drawn + 1 }) k.sat rfl rfl rfl rfl
  have k1 : OkA C O l G (below σ.next) σ a { w with drawn := w.drawn + 1 } := by
    refine ⟨S', fun t v ht => E'.rel _ _ (k.tmps t v ht), k.size, ?_, k.evo.trans E', fun r hr => ?_, k.nornd⟩
    · obtain ⟨bs, h1, h2, h3⟩ := k.defers
      exact ⟨bs, h1, h2, fun j id b hj hb => E'.rel _ _ (h3 j id b hj hb)⟩
    · obtain ⟨l0, h1, h2⟩ := k.rnd r hr
      exact ⟨l0, h1, E'.rel _ _ h2⟩
  have k2 : OkA C O l G (live σ.next (Array.replicate all.size false)) σ a { w with drawn := w.drawn + 1 } := k1.wide fun j hj => (hlive j).2 hj
  refine AnyD_sound (L := L) hall (m := all.size) hQ _ _ σ G _ _ (by simp) k2 ?_
  have := AnyD_lex (C := C) (L := L) (base := σ.next) (K := K) hall (fun i j oi oj hi hj hne h1 h2 => ?_) all.toList 0 (Array.replicate all.size false) σ (by simp) (by simpa using hlex.2) ⟨_, _, _, _, _, k2⟩ (fun k o _ hl => ?_) hx
  · simpa using this
  · have hil := (Array.getElem?_eq_some_iff.1 hi).1
    have hjl := (Array.getElem?_eq_some_iff.1 hj).1
    have h3 := List.all_eq_true.1 hcl i (List.mem_range.2 hil)
    have h4 := List.all_eq_true.1 h3 j (List.mem_range.2 hjl)
    simp only [hi, hj, Bool.or_eq_true, beq_iff_eq, Bool.not_eq_true'] at h4
    rcases h4 with (((h4 | h4) | h4) | h4) | h4
    · exact absurd h4 hne
    · exact .inl h4
    · rw [h1] at h4; cases h4
    · rw [h2] at h4; cases h4
    · exact .inr h4
  · exfalso
    by_cases e : k < all.size
    · simp [e] at hl
    · simp [e] at hl
end
end Go.Abs
