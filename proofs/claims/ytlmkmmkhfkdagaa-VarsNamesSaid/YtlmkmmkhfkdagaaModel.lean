/- The state and its parts, in plain Lean, and how they lie in memory. -/
import Derived.Test.YtlmkmmkhfkdagaaAbsWk
set_option linter.unusedVariables false
set_option linter.unusedSimpArgs false
namespace Go.Abs
open Go.RowKit

structure ValM where
  kind : Int
  n : Int
  t : ByteArray
  deriving DecidableEq

structure CellM where
  scope : Int
  name : ByteArray
  v : ValM
  deriving DecidableEq

structure ItemM where
  id : Int
  up : Int
  is : Int
  proc : ByteArray
  node : Int
  frm : Int
  wait : Int
  code : ByteArray
  deriving DecidableEq

structure StM where
  clock : Int
  next : Int
  defs : AV
  items : List ItemM
  cells : List CellM
  watches : AV

def flVal (v : ValM) : List AV := [.sc (.int .u8 v.kind), .sc (.int .i64 v.n), .sc (.string v.t)]
def flCell (c : CellM) : List AV := [.sc (.int .i64 c.scope), .sc (.string c.name), .sc (.int .u8 c.v.kind), .sc (.int .i64 c.v.n), .sc (.string c.v.t)]
def flItem (i : ItemM) : List AV := [.sc (.int .i64 i.id), .sc (.int .i64 i.up), .sc (.int .u8 i.is), .sc (.string i.proc), .sc (.int .i64 i.node), .sc (.int .i64 i.frm), .sc (.int .u8 i.wait), .sc (.string i.code)]
def flSt (s : StM) : List AV := [.sc (.int .i64 s.clock), .sc (.int .i64 s.next), s.defs, .lst 8 (s.items.map flItem), .lst 5 (s.cells.map flCell), s.watches]

def zItem : ItemM := ⟨0, 0, 0, ⟨#[]⟩, 0, 0, 0, ⟨#[]⟩⟩
def zVal : ValM := ⟨0, 0, ⟨#[]⟩⟩
def zCell : CellM := ⟨0, ⟨#[]⟩, zVal⟩

/-- Where the item of a number stands. -/
def StM.place (s : StM) (id : Int) : Option Nat := s.items.findIdx? fun it => decide (it.id = id)
/-- The item of a number. -/
def StM.find (s : StM) (id : Int) : Option ItemM := (s.place id).bind fun i => s.items[i]?

theorem StM.place_lt {s : StM} {id : Int} {i : Nat} (h : s.place id = some i) : ∃ it, s.items[i]? = some it ∧ it.id = id := by
  unfold StM.place at h
  rw [List.findIdx?_eq_some_iff_getElem] at h
  obtain ⟨hi, h1, _⟩ := h
  exact ⟨s.items[i], List.getElem?_eq_getElem hi, by simpa using h1⟩

theorem StM.find_none {s : StM} {id : Int} (h : s.place id = none) : s.find id = none := by simp [StM.find, h]
theorem StM.find_some {s : StM} {id : Int} {i : Nat} {it : ItemM} (h : s.place id = some i) (hi : s.items[i]? = some it) : s.find id = some it := by simp [StM.find, h, hi]

theorem findIdx_map {α β : Type} (f : α → β) (p : β → Bool) (l : List α) : (l.map f).findIdx? p = l.findIdx? fun a => p (f a) := by
  rw [List.findIdx?_map]; rfl

/-- Whose scope is seen next. -/
def StM.nextId (s : StM) (it : ItemM) : Int := if ((s.find it.up).getD zItem).is = 2 then ((s.find it.up).getD zItem).up else it.up

/-- The scopes that are seen, the nearest first. -/
def StM.wayGo (s : StM) : Nat → List Int → Int → List Int
  | 0, _, _ => []
  | n + 1, met, id => match s.find id with
    | none => []
    | some it => if it.is = 1 ∧ id ∉ met then id :: (if it.node = -1 then [] else s.wayGo n (met ++ [id]) (s.nextId it)) else []

def StM.way (s : StM) (scope : Int) : List Int := s.wayGo (s.items.length + 1) [] scope

theorem pigeon {α : Type} [DecidableEq α] : ∀ (l l' : List α), l.Nodup → (∀ x ∈ l, x ∈ l') → l.length ≤ l'.length
  | [], _, _, _ => Nat.zero_le _
  | a :: l, l', hn, hs => by
    rw [List.nodup_cons] at hn
    have ha := hs a (by simp)
    have := pigeon l (l'.erase a) hn.2 fun x hx => by
      have : x ≠ a := fun e => hn.1 (e ▸ hx)
      exact (List.mem_erase_of_ne this).2 (hs x (by simp [hx]))
    rw [List.length_erase_of_mem ha] at this
    have hp : 0 < l'.length := List.length_pos_of_mem ha
    simp only [List.length_cons]
    omega

/-- Is it the cell of a scope and a name? -/
def isCell (id : Int) (name : ByteArray) (c : CellM) : Bool := decide (c.scope = id) && decide (c.name = name)
/-- Where the cell stands that is seen. -/
def StM.spot (s : StM) (scope : Int) (name : ByteArray) : Option Nat := (s.way scope).findSome? fun id => s.cells.findIdx? (isCell id name)

/-- The cell that is seen. -/
def StM.seen (s : StM) (scope : Int) (name : ByteArray) : Option CellM := (s.spot scope name).bind fun i => s.cells[i]?

theorem StM.spot_lt {s : StM} {scope : Int} {name : ByteArray} {i : Nat} (h : s.spot scope name = some i) : ∃ c, s.cells[i]? = some c := by
  unfold StM.spot at h
  obtain ⟨id, _, h1⟩ := List.exists_of_findSome?_eq_some h
  rw [List.findIdx?_eq_some_iff_getElem] at h1
  obtain ⟨hi, _⟩ := h1
  exact ⟨_, List.getElem?_eq_getElem hi⟩

/-- The cells of a scope. -/
def StM.own (s : StM) (scope : Int) : List CellM := s.cells.filter fun c => decide (c.scope = scope)

structure SetM where
  name : ByteArray
  v : ValM
  deriving DecidableEq

structure VarM where
  name : ByteArray
  init : ValM
  deriving DecidableEq

def flSet (x : SetM) : List AV := [.sc (.string x.name), .sc (.int .u8 x.v.kind), .sc (.int .i64 x.v.n), .sc (.string x.v.t)]
def flVar (x : VarM) : List AV := [.sc (.string x.name), .sc (.int .u8 x.init.kind), .sc (.int .i64 x.init.n), .sc (.string x.init.t)]

/-- A cell's name and value. -/
def CellM.set (c : CellM) : SetM := ⟨c.name, c.v⟩
/-- The cells of all scopes that are seen. -/
def StM.env (s : StM) (scope : Int) : List SetM := (s.way scope).flatMap fun id => (s.own id).map CellM.set

/-- May a byte be in a text value? -/
def okByte (b : UInt8) : Bool := decide (32 ≤ b.toNat) && decide (b.toNat ≤ 126) && decide (b.toNat ≠ 39)
def okAt (s : ByteArray) (i : Nat) : Bool := match s[i]? with
  | some b => okByte b
  | none => true
def plainM (s : ByteArray) : Bool := (List.range s.size).all (okAt s) && decide (s.size ≤ 40)
/-- May a value be? -/
def mayM (v : ValM) : Bool :=
  if v.kind = 0 then decide (v = zVal)
  else if v.kind = 1 then decide (v = ⟨1, v.n, ⟨#[]⟩⟩)
  else if v.kind = 2 then decide (v = ⟨2, if v.n = 0 then 0 else 1, ⟨#[]⟩⟩)
  else if v.kind = 3 then decide (v = ⟨3, 0, v.t⟩) && plainM v.t
  else false

/-- Numbers met, as a map's rows. -/
def metM (vis : List Int) : List (Value × AV) := vis.map fun k => (.int .i64 k, .sc (.int .i64 1))

theorem metM_none : ∀ {vis : List Int} {k : Int}, k ∉ vis → mapFind (.int .i64 k) (metM vis) = some none
  | [], k, _ => rfl
  | a :: vis, k, h => by
    simp only [List.mem_cons, not_or] at h
    simp only [metM, List.map_cons, mapFind, keyEq, if_true, h.1, decide_false]
    have := metM_none h.2
    unfold metM at this
    rw [this]
    rfl

theorem metM_some : ∀ {vis : List Int} {k : Int}, k ∈ vis → ∃ j, mapFind (.int .i64 k) (metM vis) = some (some (j, .sc (.int .i64 1))) ∧ j < vis.length
  | [], k, h => by simp at h
  | a :: vis, k, h => by
    simp only [metM, List.map_cons, mapFind, keyEq, if_true]
    by_cases e : k = a
    · exact ⟨0, by simp [e], by simp⟩
    · simp only [List.mem_cons, e, false_or] at h
      obtain ⟨j, h1, h2⟩ := metM_some h
      unfold metM at h1
      refine ⟨j + 1, ?_, by simp; omega⟩
      simp only [e, decide_false]
      rw [h1]
      rfl

theorem metM_set : ∀ {vis : List Int} {k : Int} {j : Nat} {c : AV}, k ∈ vis → mapFind (.int .i64 k) (metM vis) = some (some (j, .sc (.int .i64 1))) → mapFind (.int .i64 k) ((metM vis).set j (.int .i64 k, c)) = some (some (j, c))
  | [], k, j, c, h, _ => by simp at h
  | a :: vis, k, j, c, h, hf => by
    simp only [metM, List.map_cons, mapFind, keyEq, if_true] at hf
    by_cases e : k = a
    · subst e
      simp at hf
      subst hf
      simp [metM, mapFind, keyEq]
    · simp only [e, decide_false] at hf
      simp only [List.mem_cons, e, false_or] at h
      obtain ⟨j', h1, h2⟩ := metM_some h
      unfold metM at h1
      rw [h1] at hf
      simp at hf
      obtain ⟨rfl, -⟩ := hf
      have := metM_set (c := c) h h1
      simp only [metM, List.map_cons, List.set_cons_succ, mapFind, keyEq, if_true, e, decide_false]
      unfold metM at this
      rw [this]
      rfl

theorem metM_app {vis : List Int} {k : Int} {c : AV} (h : k ∉ vis) : mapFind (.int .i64 k) (metM vis ++ [(.int .i64 k, c)]) = some (some (vis.length, c)) := by
  induction vis with
  | nil => simp [metM, mapFind, keyEq]
  | cons a vis ih =>
    simp only [List.mem_cons, not_or] at h
    have := ih h.2
    simp only [metM, List.map_cons, List.cons_append, mapFind, keyEq, if_true, h.1, decide_false, List.length_cons]
    unfold metM at this
    rw [this]
    rfl

theorem metM_snoc (vis : List Int) (k : Int) : metM vis ++ [(.int .i64 k, .sc (.int .i64 1))] = metM (vis ++ [k]) := by simp [metM]
end Go.Abs
