/- The law function over a machine that is set a number of answers true. -/
import Derived.Test.YtcllbnancmogfaaWf
import Derived.Test.YtcllbnancmogfaaCj
set_option linter.unusedVariables false
set_option linter.unusedSimpArgs false
set_option maxRecDepth 100000
namespace Go.Proofs.Ytcllbnancmogfaa.L
open Go.RowKit
theorem setM_len (m : HartM) (k w : Int) : (setM m k w).csr.length = m.csr.length ∧ (setM m k w).regs = m.regs ∧ (setM m k w).inp = m.inp ∧ (setM m k w).out = m.out := by
  unfold setM setCsrL
  (repeat' split) <;> simp
theorem setCsr_few (m : HartM) (hf : m.few) (hs : m.small) (k w : Int) : (setCsr m k w).2.few ∧ (setCsr m k w).2.small := by
  unfold setCsr
  split
  · cases h1 : (!inR k 0 10)
    · obtain ⟨e1, e2, e3, e4⟩ := setM_len m k w
      refine ⟨⟨?_, ?_, ?_, ?_⟩, ⟨?_, ?_, ?_, ?_⟩⟩
      · show (setM m k w).regs.length ≤ _; rw [e2]; exact hf.regs
      · show (setM m k w).csr.length ≤ _; rw [e1]; exact hf.csr
      · show (setM m k w).inp.length ≤ _; rw [e3]; exact hf.inp
      · show (setM m k w).out.length ≤ _; rw [e4]; exact hf.out
      · show (setM m k w).regs.length * 8 ≤ _; rw [e2]; exact hs.regs
      · show (setM m k w).csr.length * 8 ≤ _; rw [e1]; exact hs.csr
      · show (setM m k w).inp.length * 8 ≤ _; rw [e3]; exact hs.inp
      · show (setM m k w).out.length * 8 ≤ _; rw [e4]; exact hs.out
    · exact hartZ_few
  · exact hartZ_few
set_option maxHeartbeats 1600000 in
theorem c_laws_FnExactSetCsr (x0 : HartM) (x1 : Int) (x2 : Int) (ho_x0 : x0.ok) (ho_x1 : ok64 x1) (ho_x2 : ok64 x2) : FnOK Try.prog 11 [hartLV x0, di x1, di x2] (rb true) := by
  have hs_x0 := ho_x0.small
  refine fn_of lv11 Try.func11 rfl rfl (by kernel_rfl) rfl ?_
  refine .inl ⟨_, _, rfl, c_laws_szHart x0 hs_x0 _ (by decide) (by decide), rfl, ?_⟩
  refine bsplit_intro (fun h => ?_) (fun h => ?_)
  · exact ⟨⟨rfl, trivial⟩, rfl⟩
  have hf_x0 := few_of_sz h
  have cs := c_spec_SetCsr x0 hs_x0 x1 x2
  have ci := c_impl_SetCsr x0 hs_x0 x1 x2
  obtain ⟨hf, hsm⟩ := setCsr_few x0 hf_x0 hs_x0 x1 x2
  refine .inl ⟨_, _, rfl, c_laws_toHart x0 hs_x0, rfl, ?_⟩
  repeat' (first | refine bsplit_true ?_ | refine bsplit_false ?_ | refine chk_intro (by kernel_rfl) ?_ | refine bsplit_of_false (by simp; done) ?_)
  refine .inl ⟨_, _, rfl, cs, rfl, ?_⟩
  repeat' (first | refine bsplit_true ?_ | refine bsplit_false ?_ | refine chk_intro (by kernel_rfl) ?_ | refine bsplit_of_false (by simp; done) ?_)
  refine .inl ⟨_, _, rfl, c_laws_toHart x0 hs_x0, rfl, ?_⟩
  repeat' (first | refine bsplit_true ?_ | refine bsplit_false ?_ | refine chk_intro (by kernel_rfl) ?_ | refine bsplit_of_false (by simp; done) ?_)
  refine .inl ⟨_, _, rfl, ci, rfl, ?_⟩
  repeat' (first | refine bsplit_true ?_ | refine bsplit_false ?_ | refine chk_intro (by kernel_rfl) ?_ | refine bsplit_of_false (by simp; done) ?_)
  generalize setCsr x0 x1 x2 = p at *
  have hkp : 0 ≤ hK4 p.2 1 := (hK_le p.2 1 hf (by omega) (by omega)).2.2.2.1
  have hk : ¬ hK4 p.2 1 < 0 := by omega
  refine .inl ⟨_, _, rfl, c_laws_eqHartResult p p hsm, rfl, ?_⟩
  repeat' (first | refine bsplit_true ?_ | refine bsplit_false ?_ | refine chk_intro (by kernel_rfl) ?_ | refine bsplit_of_false (by simp; done) ?_)
  refine .inl ⟨_, _, rfl, c_laws_toHart x0 hs_x0, rfl, ?_⟩
  repeat' (first | refine bsplit_true ?_ | refine bsplit_false ?_ | refine chk_intro (by kernel_rfl) ?_ | refine bsplit_of_false (by simp; done) ?_)
  refine .inl ⟨_, _, rfl, c_laws_eqHart x0 x0 hs_x0, rfl, ?_⟩
  repeat' (first | refine bsplit_true ?_ | refine bsplit_false ?_ | refine chk_intro (by kernel_rfl) ?_ | refine bsplit_of_false (by simp; done) ?_)
  have hb0 := hK_b x0 (1) hf_x0 (by omega) (by omega)
  refine .inr ⟨rfl, use_mut ⟨_, _, _, _, _, _, rfl, rfl, c_laws_markHart x0 (1) hf_x0 (by omega) (by omega), rfl, ?_⟩⟩
  repeat' (first | refine bsplit_true ?_ | refine bsplit_false ?_ | refine chk_intro (by kernel_rfl) ?_)
  try refine bsplit_of_false (decide_eq_false (show ¬ (hK4 x0 (1)) < 0 by have := hb0.1; omega)) ?_
  repeat' (first | refine bsplit_true ?_ | refine bsplit_false ?_ | refine chk_intro (by kernel_rfl) ?_ | refine bsplit_of_false (by simp; done) ?_)
  refine .inl ⟨_, _, rfl, c_laws_eqHartResult p p hsm, rfl, ?_⟩
  repeat' (first | refine bsplit_true ?_ | refine bsplit_false ?_ | refine chk_intro (by kernel_rfl) ?_ | refine bsplit_of_false (by simp; done) ?_)
  refine .inr ⟨rfl, use_mut ⟨_, _, _, _, _, _, rfl, rfl, c_laws_markHartResult p 1 hf (by omega) (by omega), rfl, ?_⟩⟩
  repeat' (first | refine bsplit_true ?_ | refine bsplit_false ?_ | refine chk_intro (by kernel_rfl) ?_)
  refine .inl ⟨_, _, rfl, c_laws_heldHartResult p 1 hf (by omega) (by omega), rfl, ?_⟩
  repeat' (first | refine bsplit_true ?_ | refine bsplit_false ?_ | refine chk_intro (by kernel_rfl) ?_)
  try refine bsplit_of_false (decide_eq_false hk) ?_
  repeat' (first | refine bsplit_true ?_ | refine bsplit_false ?_ | refine chk_intro (by kernel_rfl) ?_ | refine bsplit_of_false (by simp; done) ?_)
  refine .inl ⟨_, _, rfl, c_laws_toHart x0 hs_x0, rfl, ?_⟩
  repeat' (first | refine bsplit_true ?_ | refine bsplit_false ?_ | refine chk_intro (by kernel_rfl) ?_ | refine bsplit_of_false (by simp; done) ?_)
  refine .inl ⟨_, _, rfl, ci, rfl, ?_⟩
  repeat' (first | refine bsplit_true ?_ | refine bsplit_false ?_ | refine chk_intro (by kernel_rfl) ?_ | refine bsplit_of_false (by simp; done) ?_)
  refine .inl ⟨_, _, rfl, c_laws_eqHartResult p p hsm, rfl, ?_⟩
  repeat' (first | refine bsplit_true ?_ | refine bsplit_false ?_ | refine chk_intro (by kernel_rfl) ?_ | refine bsplit_of_false (by simp; done) ?_)
  refine .inl ⟨_, _, rfl, c_laws_heldHartResult p 1 hf (by omega) (by omega), rfl, ?_⟩
  repeat' (first | refine bsplit_true ?_ | refine bsplit_false ?_ | refine chk_intro (by kernel_rfl) ?_)
  try refine bsplit_of_false (decide_eq_false hk) ?_
  repeat' (first | refine bsplit_true ?_ | refine bsplit_false ?_ | refine chk_intro (by kernel_rfl) ?_ | refine bsplit_of_false (by simp; done) ?_)
  exact ⟨⟨rfl, trivial⟩, rfl⟩
end Go.Proofs.Ytcllbnancmogfaa.L
