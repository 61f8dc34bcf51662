/- The law functions over a machine that is fed answer true. -/
import Derived.Test.YtfcekiehcchebaaWe
import Derived.Test.YtfcekiehcchebaaCi
set_option linter.unusedVariables false
set_option linter.unusedSimpArgs false
set_option maxRecDepth 100000
namespace Go.Proofs.Ytfcekiehcchebaa.L
open Go.RowKit
theorem hK_b (m : HartM) (k : Int) (hf : m.few) (h1 : 0 ≤ k) (h2 : k ≤ 1048576) : 0 ≤ hK4 m k ∧ hK4 m k ≤ k + 4194304 := by
  obtain ⟨b1, b2, b3, b4⟩ := hf
  unfold hK4 hK3 hK2 hK1
  omega
theorem ints_b (l : List Int) (k : Int) (hf : l.length ≤ 1048576) (h1 : 0 ≤ k) (h2 : k ≤ 1099511627776) : 0 ≤ k + l.length ∧ k + l.length ≤ k + 1048576 := by omega
theorem feedHart_few (m : HartM) (hf : m.few) (hs : m.small) (l : List Int) (hl : l.length ≤ 1048576) : (feedHart m l).2.few ∧ (feedHart m l).2.small := by
  unfold feedHart
  split
  · cases h1 : (!l.all isW)
    · cases h2 : decide ((m.inp.length : Int) + l.length > 40)
      · have h2 : ¬ ((m.inp.length : Int) + l.length > 40) := by simpa using h2
        have e : (m.inp ++ l).length = m.inp.length + l.length := by simp
        exact ⟨⟨hf.regs, hf.csr, by show (m.inp ++ l).length ≤ _; omega, hf.out⟩, ⟨hs.regs, hs.csr, by show (m.inp ++ l).length * 8 ≤ _; omega, hs.out⟩⟩
      · exact hartZ_few
    · exact hartZ_few
  · exact hartZ_few
end Go.Proofs.Ytfcekiehcchebaa.L
