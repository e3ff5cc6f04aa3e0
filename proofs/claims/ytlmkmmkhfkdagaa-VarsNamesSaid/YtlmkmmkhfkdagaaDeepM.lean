/- Processes and watches, and how they lie in memory. -/
import Derived.Test.YtlmkmmkhfkdagaaModel
set_option linter.unusedVariables false
namespace Go.Abs
open Go.RowKit

structure NodeM where
  name : ByteArray
  kind : Int
  in_ : Int
  on : Int
  event : Int
  key : ByteArray
  text : ByteArray
  set : ByteArray
  breaks : Bool
  vars : List VarM
  back : List ByteArray

structure FlowM where
  frm : Int
  to : Int
  if_ : ByteArray
  else_ : Bool

structure ProcM where
  name : ByteArray
  vars : List VarM
  nodes : List NodeM
  flows : List FlowM

structure WatchM where
  id : Int
  item : Int
  node : Int
  event : Int
  key : ByteArray
  due : Int
  armed : Bool

def flText (b : ByteArray) : List AV := [.sc (.string b)]
def flNode (n : NodeM) : List AV := [.sc (.string n.name), .sc (.int .u8 n.kind), .sc (.int .i64 n.in_), .sc (.int .i64 n.on), .sc (.int .u8 n.event), .sc (.string n.key), .sc (.string n.text), .sc (.string n.set), .sc (.bool n.breaks), .lst 4 (n.vars.map flVar), .lst 1 (n.back.map flText)]
def flFlow (f : FlowM) : List AV := [.sc (.int .i64 f.frm), .sc (.int .i64 f.to), .sc (.string f.if_), .sc (.bool f.else_)]
def flProc (p : ProcM) : List AV := [.sc (.string p.name), .lst 4 (p.vars.map flVar), .lst 11 (p.nodes.map flNode), .lst 4 (p.flows.map flFlow)]
def flWatch (w : WatchM) : List AV := [.sc (.int .i64 w.id), .sc (.int .i64 w.item), .sc (.int .i64 w.node), .sc (.int .u8 w.event), .sc (.string w.key), .sc (.int .i64 w.due), .sc (.bool w.armed)]
/-- Lengths that a number can tell. -/
def ProcM.fits (p : ProcM) : Prop := p.vars.length ≤ 9223372036854775807 ∧ p.nodes.length ≤ 9223372036854775807 ∧ p.flows.length ≤ 9223372036854775807 ∧ ∀ n ∈ p.nodes, n.vars.length ≤ 9223372036854775807 ∧ n.back.length ≤ 9223372036854775807

end Go.Abs
