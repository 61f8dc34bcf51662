/- The package-level variables whose contents are known: block, kind, whole numbers. -/
import Derived.Below
namespace Go.Proofs.Ytfcekiehcchebaa.L
open Go
def gtab : List (Nat × IntKind × List Int) := []
/-- package-level variables of one cell: a whole number (false), a value of an interface's type (true) -/
def gcell : List (Nat × Bool) := []
/-- cuts of own rows that stay parts of them: type, temporary -/
def cutTab : List (Nat × Nat) := [(31, 36)]
end Go.Proofs.Ytfcekiehcchebaa.L
