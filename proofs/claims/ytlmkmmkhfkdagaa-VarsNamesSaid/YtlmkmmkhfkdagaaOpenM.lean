/- What opening variables makes of the cells, in plain Lean. -/
import Derived.Test.YtlmkmmkhfkdagaaSortM
set_option linter.unusedVariables false
set_option linter.unusedSimpArgs false
namespace Go.Abs
open Go.RowKit

def zSt : List AV := [.sc (.int .i64 0), .sc (.int .i64 0), .emp, .emp, .emp, .emp]

/-- Is a cell of a scope and a name in a row? -/
def hasCell (L : List CellM) (id : Int) (name : ByteArray) : Bool := (L.findIdx? (isCell id name)).isSome

theorem hasCell_eq (L : List CellM) (id : Int) (name : ByteArray) : hasCell L id name = decide ((0 : Int) ≤ match idxI (L.findIdx? (isCell id name)) with | v => v) := by
  unfold hasCell idxI
  cases L.findIdx? (isCell id name) <;> simp

/-- What is opened, of a row of variables. -/
def openVars (scope : Int) : List VarM → List CellM → List CellM
  | [], own => own
  | v :: vs, own => openVars scope vs (if hasCell own scope v.name then own else own ++ [⟨scope, v.name, v.init⟩])

theorem openVars_snoc (scope : Int) : ∀ (vs : List VarM) (v : VarM) (own : List CellM), openVars scope (vs ++ [v]) own = (if hasCell (openVars scope vs own) scope v.name then openVars scope vs own else openVars scope vs own ++ [⟨scope, v.name, v.init⟩])
  | [], v, own => rfl
  | u :: vs, v, own => by
    simp only [List.cons_append, openVars]
    exact openVars_snoc scope vs v _

theorem openVars_length (scope : Int) : ∀ (vs : List VarM) (own : List CellM), (openVars scope vs own).length ≤ own.length + vs.length
  | [], own => Nat.le_refl _
  | u :: vs, own => by
    simp only [openVars, List.length_cons]
    cases hasCell own scope u.name with
    | true => have := openVars_length scope vs own; simp only [if_true]; omega
    | false =>
      have := openVars_length scope vs (own ++ [⟨scope, u.name, u.init⟩])
      rw [List.length_append] at this
      simp only [Bool.false_eq_true, if_false]
      simp only [List.length_cons, List.length_nil] at this
      omega

/-- Does an older cell stay? -/
def keepC (opened : List CellM) (scope : Int) (c : CellM) : Bool := !decide (c.scope = scope) || !hasCell opened scope c.name

/-- The cells ahead of their sorting. -/
def StM.pre (s : StM) (scope : Int) (vs : List VarM) : List CellM := openVars scope vs [] ++ s.cells.filter (keepC (openVars scope vs []) scope)

end Go.Abs
