/- What the functions compute that turn a machine that is pointed at: contracts. -/
import Derived.Test.YtfcekiehcchebaaCf
set_option linter.unusedVariables false
set_option linter.unusedSimpArgs false
set_option maxRecDepth 100000
namespace Go.Proofs.Ytfcekiehcchebaa.L
open Go.RowKit
theorem set_row (l : List Int) (i : Nat) (v : Int) (h : i < l.length) (j : Nat) : (if j = i then splice (intsF l j) 0 [D.v (.int .i64 v)] else intsF l j) = intsF (l.set i v) j := by
  by_cases e : j = i
  · subst e
    rw [if_pos rfl]
    show [D.v (.int .i64 v)] = [D.v (.int .i64 ((l.set j v).getD j 0))]
    simp [List.getD, h]
  · rw [if_neg e]
    show [D.v (.int .i64 (l.getD j 0))] = [D.v (.int .i64 ((l.set i v).getD j 0))]
    simp [List.getD, List.getElem?_set_ne (Ne.symm e)]
abbrev hBox (m : HartM) : Ent := .box 30 (hartK m 1 2 3 4)
/-- a machine's memory: the machine, its rows -/
abbrev hMem (m : HartM) : List (Nat × Ent) := [(0, hBox m), (1, rowE m.regs), (2, rowE m.csr), (3, rowE m.inp), (4, rowE m.out)]
def backM (m : HartM) : HartM := { m with pc := m.csr.getD 2 0, csr := m.csr.set 0 (IntKind.i64.wrap (2 + IntKind.i64.wrap (Int.tdiv (m.csr.getD 0 0) 2))) }
end Go.Proofs.Ytfcekiehcchebaa.L
