/- The law functions over a machine that is fed answer true. -/
import Derived.Test.YtcllbnancmogfaaWe
import Derived.Test.YtcllbnancmogfaaCi
set_option linter.unusedVariables false
set_option linter.unusedSimpArgs false
set_option maxRecDepth 100000
namespace Go.Proofs.Ytcllbnancmogfaa.L
open Go.RowKit
theorem hK_b (m : HartM) (k : Int) (hf : m.few) (h1 : 0 ≤ k) (h2 : k ≤ 1048576) : 0 ≤ hK4 m k ∧ hK4 m k ≤ k + 4194304 := by
  obtain ⟨b1, b2, b3, b4⟩ := hf
  unfold hK4 hK3 hK2 hK1
  omega
theorem ints_b (l : List Int) (k : Int) (hf : l.length ≤ 1048576) (h1 : 0 ≤ k) (h2 : k ≤ 1099511627776) : 0 ≤ k + l.length ∧ k + l.length ≤ k + 1048576 := by omega
theorem feedHart_few (m : HartM) (hf : m.few) (hs : m.small) (l : List Int) (hl : l.length ≤ 1048576) : (feedHart m l).2.few ∧ (feedHart m l).2.small := by
  unfold feedHart
  split
  · cases h1 : (!l.all isW)
    · cases h2 : decide ((m.inp.length : Int) + l.length > 40)
      · have h2 : ¬ ((m.inp.length : Int) + l.length > 40) := by simpa using h2
        have e : (m.inp ++ l).length = m.inp.length + l.length := by simp
        exact ⟨⟨hf.regs, hf.csr, by show (m.inp ++ l).length ≤ _; omega, hf.out⟩, ⟨hs.regs, hs.csr, by show (m.inp ++ l).length * 8 ≤ _; omega, hs.out⟩⟩
      · exact hartZ_few
    · exact hartZ_few
  · exact hartZ_few
set_option maxHeartbeats 1600000 in
theorem c_laws_FnExactFeedHart (x0 : HartM) (x1 : List Int) (ho_x0 : x0.ok) (ho_x1 : okInts x1) : FnOK Try.prog 9 [hartLV x0, .d (ints x1)] (rb true) := by
  have hs_x0 := ho_x0.small
  have hl8_x1 : x1.length * 8 ≤ 140737488355328 := by have := ho_x1.1; rw [reach_eq] at this; omega
  refine fn_of lv9 Try.func9 rfl rfl (by kernel_rfl) rfl ?_
  refine bsplit_intro (fun h => ?_) (fun h => ?_)
  · exact ⟨⟨rfl, trivial⟩, rfl⟩
  have hf_x1 : x1.length ≤ 1048576 := by simp at h; omega
  refine .inl ⟨_, _, rfl, c_laws_szHart x0 hs_x0 _ (by decide) (by decide), rfl, ?_⟩
  refine bsplit_intro (fun h => ?_) (fun h => ?_)
  · exact ⟨⟨rfl, trivial⟩, rfl⟩
  have hf_x0 := few_of_sz h
  have cs := c_spec_FeedHart x0 hs_x0 x1 hf_x1
  have ci := c_impl_FeedHart x0 hs_x0 x1 hf_x1
  obtain ⟨hf, hsm⟩ := feedHart_few x0 hf_x0 hs_x0 x1 hf_x1
  refine .inl ⟨_, _, rfl, c_laws_toHart x0 hs_x0, rfl, ?_⟩
  repeat' (first | refine bsplit_true ?_ | refine bsplit_false ?_ | refine chk_intro (by kernel_rfl) ?_ | refine bsplit_of_false (by simp; done) ?_)
  refine .inl ⟨_, _, rfl, c_laws_toInt64S x1 hl8_x1, rfl, ?_⟩
  repeat' (first | refine bsplit_true ?_ | refine bsplit_false ?_ | refine chk_intro (by kernel_rfl) ?_ | refine bsplit_of_false (by simp; done) ?_)
  refine .inl ⟨_, _, rfl, cs, rfl, ?_⟩
  repeat' (first | refine bsplit_true ?_ | refine bsplit_false ?_ | refine chk_intro (by kernel_rfl) ?_ | refine bsplit_of_false (by simp; done) ?_)
  refine .inl ⟨_, _, rfl, c_laws_toHart x0 hs_x0, rfl, ?_⟩
  repeat' (first | refine bsplit_true ?_ | refine bsplit_false ?_ | refine chk_intro (by kernel_rfl) ?_ | refine bsplit_of_false (by simp; done) ?_)
  refine .inl ⟨_, _, rfl, c_laws_toInt64S x1 hl8_x1, rfl, ?_⟩
  repeat' (first | refine bsplit_true ?_ | refine bsplit_false ?_ | refine chk_intro (by kernel_rfl) ?_ | refine bsplit_of_false (by simp; done) ?_)
  refine .inl ⟨_, _, rfl, ci, rfl, ?_⟩
  repeat' (first | refine bsplit_true ?_ | refine bsplit_false ?_ | refine chk_intro (by kernel_rfl) ?_ | refine bsplit_of_false (by simp; done) ?_)
  generalize feedHart x0 x1 = p at *
  have hkp : 0 ≤ hK4 p.2 1 := (hK_le p.2 1 hf (by omega) (by omega)).2.2.2.1
  have hk : ¬ hK4 p.2 1 < 0 := by omega
  refine .inl ⟨_, _, rfl, c_laws_eqHartResult p p hsm, rfl, ?_⟩
  repeat' (first | refine bsplit_true ?_ | refine bsplit_false ?_ | refine chk_intro (by kernel_rfl) ?_ | refine bsplit_of_false (by simp; done) ?_)
  refine .inl ⟨_, _, rfl, c_laws_toHart x0 hs_x0, rfl, ?_⟩
  repeat' (first | refine bsplit_true ?_ | refine bsplit_false ?_ | refine chk_intro (by kernel_rfl) ?_ | refine bsplit_of_false (by simp; done) ?_)
  refine .inl ⟨_, _, rfl, c_laws_eqHart x0 x0 hs_x0, rfl, ?_⟩
  repeat' (first | refine bsplit_true ?_ | refine bsplit_false ?_ | refine chk_intro (by kernel_rfl) ?_ | refine bsplit_of_false (by simp; done) ?_)
  refine .inl ⟨_, _, rfl, c_laws_toInt64S x1 hl8_x1, rfl, ?_⟩
  repeat' (first | refine bsplit_true ?_ | refine bsplit_false ?_ | refine chk_intro (by kernel_rfl) ?_ | refine bsplit_of_false (by simp; done) ?_)
  refine .inl ⟨_, _, rfl, c_laws_eqInt64S x1 x1 (by omega), rfl, ?_⟩
  repeat' (first | refine bsplit_true ?_ | refine bsplit_false ?_ | refine chk_intro (by kernel_rfl) ?_ | refine bsplit_of_false (by simp; done) ?_)
  have hb0 := hK_b x0 (1) hf_x0 (by omega) (by omega)
  refine .inr ⟨rfl, use_mut ⟨_, _, _, _, _, _, rfl, rfl, c_laws_markHart x0 (1) hf_x0 (by omega) (by omega), rfl, ?_⟩⟩
  repeat' (first | refine bsplit_true ?_ | refine bsplit_false ?_ | refine chk_intro (by kernel_rfl) ?_)
  have hb1 := ints_b x1 (hK4 x0 (1)) hf_x1 hb0.1 (by have := hb0.2; omega)
  refine .inr ⟨rfl, use_mut ⟨_, _, _, _, _, _, rfl, rfl, c_laws_markInt64S x1 (hK4 x0 (1)) (by omega) hb0.1 (by have := hb0.2; omega), rfl, ?_⟩⟩
  repeat' (first | refine bsplit_true ?_ | refine bsplit_false ?_ | refine chk_intro (by kernel_rfl) ?_)
  try refine bsplit_of_false (decide_eq_false (show ¬ ((hK4 x0 (1)) + (x1.length : Int)) < 0 by have := hb1.1; omega)) ?_
  repeat' (first | refine bsplit_true ?_ | refine bsplit_false ?_ | refine chk_intro (by kernel_rfl) ?_ | refine bsplit_of_false (by simp; done) ?_)
  refine .inl ⟨_, _, rfl, c_laws_eqHartResult p p hsm, rfl, ?_⟩
  repeat' (first | refine bsplit_true ?_ | refine bsplit_false ?_ | refine chk_intro (by kernel_rfl) ?_ | refine bsplit_of_false (by simp; done) ?_)
  refine .inr ⟨rfl, use_mut ⟨_, _, _, _, _, _, rfl, rfl, c_laws_markHartResult p 1 hf (by omega) (by omega), rfl, ?_⟩⟩
  repeat' (first | refine bsplit_true ?_ | refine bsplit_false ?_ | refine chk_intro (by kernel_rfl) ?_)
  refine .inl ⟨_, _, rfl, c_laws_heldHartResult p 1 hf (by omega) (by omega), rfl, ?_⟩
  repeat' (first | refine bsplit_true ?_ | refine bsplit_false ?_ | refine chk_intro (by kernel_rfl) ?_)
  try refine bsplit_of_false (decide_eq_false hk) ?_
  repeat' (first | refine bsplit_true ?_ | refine bsplit_false ?_ | refine chk_intro (by kernel_rfl) ?_ | refine bsplit_of_false (by simp; done) ?_)
  refine .inl ⟨_, _, rfl, c_laws_toHart x0 hs_x0, rfl, ?_⟩
  repeat' (first | refine bsplit_true ?_ | refine bsplit_false ?_ | refine chk_intro (by kernel_rfl) ?_ | refine bsplit_of_false (by simp; done) ?_)
  refine .inl ⟨_, _, rfl, c_laws_toInt64S x1 hl8_x1, rfl, ?_⟩
  repeat' (first | refine bsplit_true ?_ | refine bsplit_false ?_ | refine chk_intro (by kernel_rfl) ?_ | refine bsplit_of_false (by simp; done) ?_)
  refine .inl ⟨_, _, rfl, ci, rfl, ?_⟩
  repeat' (first | refine bsplit_true ?_ | refine bsplit_false ?_ | refine chk_intro (by kernel_rfl) ?_ | refine bsplit_of_false (by simp; done) ?_)
  refine .inl ⟨_, _, rfl, c_laws_eqHartResult p p hsm, rfl, ?_⟩
  repeat' (first | refine bsplit_true ?_ | refine bsplit_false ?_ | refine chk_intro (by kernel_rfl) ?_ | refine bsplit_of_false (by simp; done) ?_)
  refine .inl ⟨_, _, rfl, c_laws_heldHartResult p 1 hf (by omega) (by omega), rfl, ?_⟩
  repeat' (first | refine bsplit_true ?_ | refine bsplit_false ?_ | refine chk_intro (by kernel_rfl) ?_)
  try refine bsplit_of_false (decide_eq_false hk) ?_
  repeat' (first | refine bsplit_true ?_ | refine bsplit_false ?_ | refine chk_intro (by kernel_rfl) ?_ | refine bsplit_of_false (by simp; done) ?_)
  exact ⟨⟨rfl, trivial⟩, rfl⟩
end Go.Proofs.Ytcllbnancmogfaa.L
