/- The law function over a machine that is rung answers true. -/
import Derived.Test.YtcllbnancmogfaaCr
import Derived.Test.YtcllbnancmogfaaCf
set_option linter.unusedVariables false
set_option linter.unusedSimpArgs false
set_option maxRecDepth 100000
namespace Go.Proofs.Ytcllbnancmogfaa.L
open Go.RowKit
theorem few_of_sz {m : HartM} (h : decide (hSz m 1048576 < 0) = false) : m.few := by
  simp only [decide_eq_false_iff_not] at h
  unfold hSz at h
  simp only at h
  split at h
  · omega
  · rename_i h2
    exact ⟨by omega, by omega, by omega, by omega⟩
theorem hartZ_few : hartZ.few ∧ hartZ.small := ⟨⟨by decide, by decide, by decide, by decide⟩, ⟨by decide, by decide, by decide, by decide⟩⟩
theorem ringHart_few (m : HartM) (hf : m.few) (hs : m.small) : (ringHart m).2.few ∧ (ringHart m).2.small := by
  unfold ringHart
  split
  · exact ⟨⟨hf.regs, hf.csr, hf.inp, hf.out⟩, ⟨hs.regs, hs.csr, hs.inp, hs.out⟩⟩
  · exact hartZ_few
theorem c_laws_FnExactRingHart (m : HartM) (ho : m.ok) : FnOK Try.prog 7 [hartLV m] (rb true) := by
  have hs := ho.small
  refine fn_of lv7 Try.func7 rfl rfl (by kernel_rfl) rfl ?_
  refine .inl ⟨_, _, rfl, c_laws_szHart m hs _ (by decide) (by decide), rfl, ?_⟩
  refine bsplit_intro (fun h => ?_) (fun h => ?_)
  · exact ⟨⟨rfl, trivial⟩, rfl⟩
  have hfew := few_of_sz h
  have cs := c_spec_RingHart m hs
  have ci := c_impl_RingHart m hs
  obtain ⟨hf, hsm⟩ := ringHart_few m hfew hs
  refine .inl ⟨_, _, rfl, c_laws_toHart m hs, rfl, ?_⟩
  refine .inl ⟨_, _, rfl, cs, rfl, ?_⟩
  refine .inl ⟨_, _, rfl, c_laws_toHart m hs, rfl, ?_⟩
  refine .inl ⟨_, _, rfl, ci, rfl, ?_⟩
  generalize ringHart m = p at *
  have hk : ¬ hK4 p.2 1 < 0 := by have := (hK_le p.2 1 hf (by omega) (by omega)).2.2.2.1; omega
  have hk0 : ¬ hK4 m 1 < 0 := by have := (hK_le m 1 hfew (by omega) (by omega)).2.2.2.1; omega
  refine .inl ⟨_, _, rfl, c_laws_eqHartResult p p hsm, rfl, ?_⟩
  refine bsplit_of_false (by simp) ?_
  refine .inl ⟨_, _, rfl, c_laws_toHart m hs, rfl, ?_⟩
  refine .inl ⟨_, _, rfl, c_laws_eqHart m m hs, rfl, ?_⟩
  refine chk_intro (by kernel_rfl) ?_
  refine bsplit_of_false (by simp) ?_
  refine .inr ⟨rfl, use_mut ⟨_, _, _, _, _, _, rfl, rfl, c_laws_markHart m 1 hfew (by omega) (by omega), rfl, ?_⟩⟩
  refine bsplit_of_false (decide_eq_false hk0) ?_
  repeat' (first | refine bsplit_true ?_ | refine bsplit_false ?_)
  refine .inl ⟨_, _, rfl, c_laws_eqHartResult p p hsm, rfl, ?_⟩
  repeat' (first | refine bsplit_true ?_ | refine bsplit_false ?_)
  refine bsplit_of_false (by simp) ?_
  refine .inr ⟨rfl, use_mut ⟨_, _, _, _, _, _, rfl, rfl, c_laws_markHartResult p 1 hf (by omega) (by omega), rfl, ?_⟩⟩
  refine .inl ⟨_, _, rfl, c_laws_heldHartResult p 1 hf (by omega) (by omega), rfl, ?_⟩
  refine bsplit_of_false (decide_eq_false hk) ?_
  refine bsplit_of_false (by simp) ?_
  refine .inl ⟨_, _, rfl, c_laws_toHart m hs, rfl, ?_⟩
  refine .inl ⟨_, _, rfl, ci, rfl, ?_⟩
  refine .inl ⟨_, _, rfl, c_laws_eqHartResult p p hsm, rfl, ?_⟩
  refine bsplit_of_false (by simp) ?_
  refine .inl ⟨_, _, rfl, c_laws_heldHartResult p 1 hf (by omega) (by omega), rfl, ?_⟩
  refine bsplit_of_false (decide_eq_false hk) ?_
  refine bsplit_of_false (by simp) ?_
  exact ⟨⟨rfl, trivial⟩, rfl⟩
end Go.Proofs.Ytcllbnancmogfaa.L
