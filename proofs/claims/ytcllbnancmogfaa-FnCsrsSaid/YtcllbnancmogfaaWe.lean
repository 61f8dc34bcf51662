/- The law function over a machine that goes back from a trap answers true. -/
import Derived.Test.YtcllbnancmogfaaWd
import Derived.Test.YtcllbnancmogfaaCh
set_option linter.unusedVariables false
set_option linter.unusedSimpArgs false
set_option maxRecDepth 100000
namespace Go.Proofs.Ytcllbnancmogfaa.L
open Go.RowKit
theorem backHart_few (m : HartM) (hf : m.few) (hs : m.small) : (backHart m).2.few ∧ (backHart m).2.small := by
  unfold backHart
  split
  · exact ⟨⟨hf.regs, by simpa [backM] using hf.csr, hf.inp, hf.out⟩, ⟨hs.regs, by simpa [backM] using hs.csr, hs.inp, hs.out⟩⟩
  · exact hartZ_few
theorem c_laws_FnExactBackHart (m : HartM) (ho : m.ok) : FnOK Try.prog 8 [hartLV m] (rb true) := by
  have hs := ho.small
  refine fn_of lv8 Try.func8 rfl rfl (by kernel_rfl) rfl ?_
  refine .inl ⟨_, _, rfl, c_laws_szHart m hs _ (by decide) (by decide), rfl, ?_⟩
  refine bsplit_intro (fun h => ?_) (fun h => ?_)
  · exact ⟨⟨rfl, trivial⟩, rfl⟩
  have hfew := few_of_sz h
  have cs := c_spec_BackHart m hs
  have ci := c_impl_BackHart m hs
  obtain ⟨hf, hsm⟩ := backHart_few m hfew hs
  refine .inl ⟨_, _, rfl, c_laws_toHart m hs, rfl, ?_⟩
  refine .inl ⟨_, _, rfl, cs, rfl, ?_⟩
  refine .inl ⟨_, _, rfl, c_laws_toHart m hs, rfl, ?_⟩
  refine .inl ⟨_, _, rfl, ci, rfl, ?_⟩
  generalize backHart m = p at *
  have hk : ¬ hK4 p.2 1 < 0 := by have := (hK_le p.2 1 hf (by omega) (by omega)).2.2.2.1; omega
  have hk0 : ¬ hK4 m 1 < 0 := by have := (hK_le m 1 hfew (by omega) (by omega)).2.2.2.1; omega
  refine .inl ⟨_, _, rfl, c_laws_eqHartResult p p hsm, rfl, ?_⟩
  refine bsplit_of_false (by simp) ?_
  refine .inl ⟨_, _, rfl, c_laws_toHart m hs, rfl, ?_⟩
  refine .inl ⟨_, _, rfl, c_laws_eqHart m m hs, rfl, ?_⟩
  refine chk_intro (by kernel_rfl) ?_
  refine bsplit_of_false (by simp) ?_
  refine .inr ⟨rfl, use_mut ⟨_, _, _, _, _, _, rfl, rfl, c_laws_markHart m 1 hfew (by omega) (by omega), rfl, ?_⟩⟩
  refine bsplit_of_false (decide_eq_false hk0) ?_
  repeat' (first | refine bsplit_true ?_ | refine bsplit_false ?_)
  refine .inl ⟨_, _, rfl, c_laws_eqHartResult p p hsm, rfl, ?_⟩
  repeat' (first | refine bsplit_true ?_ | refine bsplit_false ?_)
  refine bsplit_of_false (by simp) ?_
  refine .inr ⟨rfl, use_mut ⟨_, _, _, _, _, _, rfl, rfl, c_laws_markHartResult p 1 hf (by omega) (by omega), rfl, ?_⟩⟩
  refine .inl ⟨_, _, rfl, c_laws_heldHartResult p 1 hf (by omega) (by omega), rfl, ?_⟩
  refine bsplit_of_false (decide_eq_false hk) ?_
  refine bsplit_of_false (by simp) ?_
  refine .inl ⟨_, _, rfl, c_laws_toHart m hs, rfl, ?_⟩
  refine .inl ⟨_, _, rfl, ci, rfl, ?_⟩
  refine .inl ⟨_, _, rfl, c_laws_eqHartResult p p hsm, rfl, ?_⟩
  refine bsplit_of_false (by simp) ?_
  refine .inl ⟨_, _, rfl, c_laws_heldHartResult p 1 hf (by omega) (by omega), rfl, ?_⟩
  refine bsplit_of_false (decide_eq_false hk) ?_
  refine bsplit_of_false (by simp) ?_
  exact ⟨⟨rfl, trivial⟩, rfl⟩
end Go.Proofs.Ytcllbnancmogfaa.L
