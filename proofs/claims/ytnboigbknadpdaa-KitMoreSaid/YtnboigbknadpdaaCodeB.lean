/- Which texts are codes: plain words, no program. -/
import Derived.WalkKit
set_option linter.unusedVariables false
set_option linter.unusedSimpArgs false
namespace Go.Proofs.Ytnboigbknadpdaa
set_option maxRecDepth 100000
/-- May this byte stand there? -/
def okAt (i : Nat) (c : Nat) : Bool := (decide (65 ≤ c) && decide (c ≤ 90)) || (decide (0 < i) && ((decide (48 ≤ c) && decide (c ≤ 57)) || decide (c = 45)))
def allOk (s : ByteArray) : Bool := (List.range s.size).all fun i => okAt i (s.data.toList[i]?.map (·.toNat) |>.getD 0)
def codeB (s : ByteArray) : Bool := decide (1 ≤ s.size) && decide (s.size ≤ 12) && allOk s

end Go.Proofs.Ytnboigbknadpdaa
