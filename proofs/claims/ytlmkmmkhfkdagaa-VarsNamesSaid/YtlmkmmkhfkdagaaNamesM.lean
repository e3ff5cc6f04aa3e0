/- The states of the closed examples, in plain Lean. -/
import Derived.Test.YtlmkmmkhfkdagaaDropM
import Derived.Test.YtlmkmmkhfkdagaaNearP
set_option linter.unusedVariables false
set_option linter.unusedSimpArgs false
namespace Go.Abs
open Go.RowKit

def aS : ByteArray := ⟨#[97]⟩
def qS : ByteArray := ⟨#[113]⟩
def towerN : StM := ⟨0, 6, .lst 4 [], towerItems, [], .lst 7 []⟩
def n1 : StM := towerN.open_ 1 [⟨xS, numM 1⟩, ⟨aS, numM 2⟩, ⟨xS, numM 9⟩]
def n2 : StM := n1.open_ 6 [⟨xS, numM 3⟩]
def n3 : StM := (n2.put 6 [⟨xS, numM 4⟩, ⟨aS, numM 5⟩, ⟨xS, numM 6⟩]).1
def n4 : StM := n2.drop [6, 9]
def n5 : StM := n2.open_ 1 [⟨xS, numM 8⟩]
def ringItems : List ItemM := [⟨1, 6, 1, ⟨#[]⟩, 7, 0, 0, ⟨#[]⟩⟩, ⟨2, 1, 2, ⟨#[]⟩, 1, 0, 0, ⟨#[]⟩⟩, ⟨3, 2, 1, ⟨#[]⟩, 1, 0, 0, ⟨#[]⟩⟩, ⟨4, 3, 2, ⟨#[]⟩, 2, 0, 0, ⟨#[]⟩⟩, ⟨5, 4, 1, ⟨#[]⟩, -1, 0, 0, ⟨#[]⟩⟩, ⟨6, 3, 1, ⟨#[]⟩, 4, 0, 0, ⟨#[]⟩⟩]
def ringM : StM := ⟨0, 6, .lst 4 [], ringItems, [], .lst 7 []⟩

theorem n1_pre : (towerN.pre 1 [⟨xS, numM 1⟩, ⟨aS, numM 2⟩, ⟨xS, numM 9⟩]).length = 2 := by kernel_rfl
theorem n2_pre : (n1.pre 6 [⟨xS, numM 3⟩]).length = 3 := by kernel_rfl
theorem n5_pre : (n2.pre 1 [⟨xS, numM 8⟩]).length = 3 := by kernel_rfl
theorem n1_len : n1.cells.length = 2 := by kernel_rfl
theorem n2_cells : n2.cells = [⟨1, aS, numM 2⟩, ⟨1, xS, numM 1⟩, ⟨6, xS, numM 3⟩] := by kernel_rfl
theorem n2_len : n2.cells.length = 3 := by kernel_rfl
theorem n3_len : n3.cells.length = 3 := by kernel_rfl
theorem n4_len : n4.cells.length = 2 := by kernel_rfl
theorem n5_len : n5.cells.length = 3 := by kernel_rfl
theorem n2_items : n2.items = towerItems := rfl
theorem n3_items : n3.items = towerItems := by kernel_rfl
theorem n4_items : n4.items = towerItems := rfl
theorem n5_items : n5.items = towerItems := rfl
theorem n2_sees1 : n2.sees 6 xS 6 3 = true := by kernel_rfl
theorem n2_sees2 : n2.sees 6 aS 1 2 = true := by kernel_rfl
theorem n2_sees3 : n2.sees 3 xS 1 1 = true := by kernel_rfl
theorem n2_way6 : n2.way 6 = [6, 3, 1] := by kernel_rfl
theorem n2_way2 : n2.way 2 = [] := by kernel_rfl
theorem n2_way9 : n2.way 9 = [] := by kernel_rfl
theorem n2_env : (n2.env 6).length = 3 := by kernel_rfl
theorem n2_own : (n2.own 1).length = 2 := by kernel_rfl
theorem n2_put1 : n2.put 6 [⟨aS, numM 7⟩, ⟨qS, numM 1⟩] = (n2, 22) := by kernel_rfl
theorem n2_put2 : n2.put 6 [⟨aS, ⟨3, 0, ⟨#[]⟩⟩⟩, ⟨qS, zVal⟩] = (n2, 23) := by kernel_rfl
theorem n2_put3 : n2.put 6 [⟨aS, ⟨1, 0, xS⟩⟩] = (n2, 23) := by kernel_rfl
theorem n2_put4 : (n2.put 6 [⟨xS, numM 4⟩, ⟨aS, numM 5⟩, ⟨xS, numM 6⟩]).2 = 0 := by kernel_rfl
theorem n3_sees1 : n3.sees 6 xS 6 6 = true := by kernel_rfl
theorem n3_sees2 : n3.sees 1 aS 1 5 = true := by kernel_rfl
theorem n3_sees3 : n3.sees 1 xS 1 1 = true := by kernel_rfl
theorem n4_sees : n4.sees 6 xS 1 1 = true := by kernel_rfl
theorem n5_sees : n5.sees 1 xS 1 8 = true := by kernel_rfl
theorem ring_way : ringM.way 3 = [3, 1, 6] := by kernel_rfl
end Go.Abs
