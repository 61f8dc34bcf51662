/- The package-level variables whose contents are known: block, cells. -/
import Derived.Below
namespace Go.Proofs.Ytdpahckfibnagaa.L
open Go
def gtab : List (Nat × List Value) := []
end Go.Proofs.Ytdpahckfibnagaa.L
