/- What the functions compute that send a machine back from a trap: contracts. -/
import Derived.Test.YtfcekiehcchebaaCg
set_option linter.unusedVariables false
set_option linter.unusedSimpArgs false
set_option maxRecDepth 100000
namespace Go.Proofs.Ytfcekiehcchebaa.L
open Go.RowKit
def backHart (m : HartM) : Int × HartM := if hFault m = 0 then (0, backM m) else (hFault m, hartZ)
end Go.Proofs.Ytfcekiehcchebaa.L
