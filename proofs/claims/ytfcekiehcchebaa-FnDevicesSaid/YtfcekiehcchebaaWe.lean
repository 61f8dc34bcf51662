/- The law function over a machine that goes back from a trap answers true. -/
import Derived.Test.YtfcekiehcchebaaWd
import Derived.Test.YtfcekiehcchebaaCh
set_option linter.unusedVariables false
set_option linter.unusedSimpArgs false
set_option maxRecDepth 100000
namespace Go.Proofs.Ytfcekiehcchebaa.L
open Go.RowKit
theorem backHart_few (m : HartM) (hf : m.few) (hs : m.small) : (backHart m).2.few ∧ (backHart m).2.small := by
  unfold backHart
  split
  · exact ⟨⟨hf.regs, by simpa [backM] using hf.csr, hf.inp, hf.out⟩, ⟨hs.regs, by simpa [backM] using hs.csr, hs.inp, hs.out⟩⟩
  · exact hartZ_few
end Go.Proofs.Ytfcekiehcchebaa.L
