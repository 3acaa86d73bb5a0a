/- Part of a proof over the given program: texts of lemmas (conditions: none beyond each lemma as stated). -/
import Derived.Test.YtdmoefbfepeeaaaGreatDoorQ11
import Derived.WalkSmall
set_option linter.unnecessarySimpa false
set_option linter.unusedVariables false
set_option linter.unusedSimpArgs false

set_option autoImplicit false
set_option linter.unusedVariables false
namespace Go.Fw
open Go.Proofs Go.RowKit
def bs (s : ByteArray) : List UInt8 := s.data.toList
section
variable {N b l p : Nat} {Rec : LoopState → Option Code → Obj} {w0 : World} {s : Option Addr}
end
end Go.Fw

