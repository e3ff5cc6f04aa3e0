/- What putting values makes of the cells, in plain Lean. -/
import Derived.Test.YtlmkmmkhfkdagaaOpenM
set_option linter.unusedVariables false
set_option linter.unusedSimpArgs false
namespace Go.Abs
open Go.RowKit

def StM.setCell (s : StM) (i : Nat) (v : ValM) : StM := { s with cells := s.cells.set i { cAt s.cells i with v := v } }

/-- What is put, and the error's number: what is refused leaves the state as it was. -/
def StM.putGo (s : StM) (scope : Int) : List SetM → StM → StM × Int
  | [], t => (t, 0)
  | x :: xs, t => match t.spot scope x.name with
    | none => (s, 22)
    | some i => if decide (x.v.kind = (cAt t.cells i).v.kind) && mayM x.v then s.putGo scope xs (t.setCell i x.v) else (s, 23)

def StM.put (s : StM) (scope : Int) (sets : List SetM) : StM × Int := s.putGo scope sets s
end Go.Abs
