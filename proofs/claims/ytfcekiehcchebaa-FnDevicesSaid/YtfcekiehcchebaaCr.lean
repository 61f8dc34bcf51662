/- How a machine, a word, a row of words that a law is handed is read: as data, of a size that a process can hold. -/
import Derived.Test.YtfcekiehcchebaaCb
import Derived.Test.YtfcekiehcchebaaLs
set_option linter.unusedVariables false
set_option linter.unusedSimpArgs false
set_option maxRecDepth 100000
namespace Go.Proofs.Ytfcekiehcchebaa.L
open Go.RowKit Go.ChangeShapes Go.WideShapes Go.ChangeAt

theorem own : ownKnob Try.prog.godebug = none := by kernel_rfl
theorem laidOut : laidOutB Try.prog = true := by kernel_rfl
theorem reach_eq : reachBytes = 140737488351232 := by decide
abbrev ok64 (n : Int) : Prop := (Lit.int .i64 n).wf = true
theorem ok64_le {n : Int} (h : ok64 n) : -9223372036854775808 ≤ n ∧ n ≤ 9223372036854775807 := by
  have h' : IntKind.i64.min ≤ n ∧ n ≤ 9223372036854775807 := by simpa [ok64, Lit.wf] using h
  have e : IntKind.i64.min = -9223372036854775808 := by decide
  rw [e] at h'
  exact h'
abbrev okInts (l : List Int) : Prop := l.length * 8 ≤ reachBytes ∧ ∀ x ∈ l, ok64 x

theorem reads_int64 : ReadsT Try.prog 2 1 Int (fun n => [.v (.int .i64 n)]) ok64 := ReadsT.int Try.underlying2 (by kernel_rfl)
theorem reads_bool : ReadsT Try.prog 4 1 Bool (fun n => [.v (.bool n)]) (fun _ => True) := ReadsT.bool Try.underlying4 (by kernel_rfl)
theorem reads_ints : ReadsT Try.prog 22 1 (List Int) (fun l => [ints l]) okInts := ReadsT.slice reads_int64 Try.underlying22 (by kernel_rfl) (by decide) 0 (by kernel_rfl)
structure HartM.ok (h : HartM) : Prop where
  small : h.small
  pc : ok64 h.pc
  done : ok64 h.done
  regs : okInts h.regs
  csr : okInts h.csr
  inp : okInts h.inp
  out : okInts h.out
theorem reads_Hart : ReadsT Try.prog 24 9 HartM hartD HartM.ok := by
  refine (ReadsT.struct (ok := _) Try.underlying24 (by kernel_rfl) (ReadsL.cons reads_ints (.cons reads_int64 (.cons reads_ints (.cons reads_bool (.cons reads_bool (.cons reads_bool (.cons reads_int64 (.cons reads_ints (.cons reads_ints (.nil 9))))))))))).map (fun m => ⟨m.1, m.2.1, m.2.2.1, m.2.2.2.1, m.2.2.2.2.1, m.2.2.2.2.2.1, m.2.2.2.2.2.2.1, m.2.2.2.2.2.2.2.1, m.2.2.2.2.2.2.2.2.1⟩) ?_
  rintro ⟨m1, m2, m3, m4, m5, m6, m7, m8, m9, _⟩ ⟨h1, h2, h3, h4, h5, h6, h7, h8, h9, _⟩
  have e := reach_eq
  have a1 : m1.length * 8 ≤ reachBytes := h1.1
  have a2 : m3.length * 8 ≤ reachBytes := h3.1
  have a3 : m8.length * 8 ≤ reachBytes := h8.1
  have a4 : m9.length * 8 ≤ reachBytes := h9.1
  exact ⟨⟨⟨by show m1.length * 8 ≤ _; omega, by show m3.length * 8 ≤ _; omega, by show m8.length * 8 ≤ _; omega, by show m9.length * 8 ≤ _; omega⟩, h2, h7, h1, h3, h8, h9⟩, rfl⟩
end Go.Proofs.Ytfcekiehcchebaa.L
