/- The law function over a machine that is rung answers true. -/
import Derived.Test.YtfcekiehcchebaaCr
import Derived.Test.YtfcekiehcchebaaCf
set_option linter.unusedVariables false
set_option linter.unusedSimpArgs false
set_option maxRecDepth 100000
namespace Go.Proofs.Ytfcekiehcchebaa.L
open Go.RowKit
theorem few_of_sz {m : HartM} (h : decide (hSz m 1048576 < 0) = false) : m.few := by
  simp only [decide_eq_false_iff_not] at h
  unfold hSz at h
  simp only at h
  split at h
  · omega
  · rename_i h2
    exact ⟨by omega, by omega, by omega, by omega⟩
theorem hartZ_few : hartZ.few ∧ hartZ.small := ⟨⟨by decide, by decide, by decide, by decide⟩, ⟨by decide, by decide, by decide, by decide⟩⟩
theorem ringHart_few (m : HartM) (hf : m.few) (hs : m.small) : (ringHart m).2.few ∧ (ringHart m).2.small := by
  unfold ringHart
  split
  · exact ⟨⟨hf.regs, hf.csr, hf.inp, hf.out⟩, ⟨hs.regs, hs.csr, hs.inp, hs.out⟩⟩
  · exact hartZ_few
end Go.Proofs.Ytfcekiehcchebaa.L
