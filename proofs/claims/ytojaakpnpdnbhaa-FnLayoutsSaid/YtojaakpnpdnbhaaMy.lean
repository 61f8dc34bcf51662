/- The package-level variables whose contents are known: block, kind, whole numbers. -/
import Derived.Below
namespace Go.Proofs.Ytojaakpnpdnbhaa.L
open Go
def gtab : List (Nat × IntKind × List Int) := []
end Go.Proofs.Ytojaakpnpdnbhaa.L
