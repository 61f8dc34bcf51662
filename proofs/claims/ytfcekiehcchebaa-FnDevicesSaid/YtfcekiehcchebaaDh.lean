/- Codes of bytes, as arguments read as data. -/
import Derived.Test.YtfcekiehcchebaaDa
set_option linter.unusedVariables false
set_option linter.unusedSimpArgs false
set_option maxRecDepth 100000
namespace Go.Proofs.Ytfcekiehcchebaa.L
open Go.RowKit Go.ChangeShapes Go.WideShapes Go.ChangeAt
abbrev okByte (n : Int) : Prop := (Lit.int .u8 n).wf = true
theorem okByte_le {n : Int} (h : okByte n) : 0 ≤ n ∧ n ≤ 255 := by
  have h' : IntKind.u8.min ≤ n ∧ n ≤ IntKind.u8.max := by simpa [okByte, Lit.wf] using h
  have e : IntKind.u8.min = 0 := by decide
  have e2 : IntKind.u8.max = 255 := by decide
  rw [e, e2] at h'
  exact h'
abbrev okBytes (l : List Int) : Prop := l.length * 1 ≤ reachBytes ∧ ∀ x ∈ l, okByte x
theorem okBytes.code {l : List Int} (h : okBytes l) (hb : decide ((l.length : Int) > 1048576) = false) : okCode l := ⟨by simp at hb; omega, fun x hx => okByte_le (h.2 x hx)⟩
theorem reads_uint8 : ReadsT Try.prog 5 1 Int (fun n => [.v (.int .u8 n)]) okByte := ReadsT.int Try.underlying5 (by kernel_rfl)
theorem reads_bytes : ReadsT Try.prog 49 1 (List Int) (fun l => [bytesD l]) okBytes := ReadsT.slice reads_uint8 Try.underlying49 (by kernel_rfl) (by decide) 0 (by kernel_rfl)
end Go.Proofs.Ytfcekiehcchebaa.L
