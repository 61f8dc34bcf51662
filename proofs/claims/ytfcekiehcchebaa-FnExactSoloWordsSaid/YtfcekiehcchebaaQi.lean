/- The law function over the words of a lonely machine's page answers true. -/
import Derived.Test.YtfcekiehcchebaaQh
set_option linter.unusedVariables false
set_option linter.unusedSimpArgs false
set_option maxRecDepth 100000
namespace Go.Proofs.Ytfcekiehcchebaa.L
open Go.RowKit
theorem soloWords_len (x : SoloM) (p : Int) : (soloWords x p).2.length ≤ 8 := by
  unfold soloWords
  split
  · cases (!inR p 0 7)
    · show (pageW x.mem p).length ≤ 8
      unfold pageW
      rw [List.length_take]; omega
    · simp
  · simp
set_option maxHeartbeats 1600000 in
theorem c_laws_FnExactSoloWords (x : SoloM) (p : Int) (ho : x.ok) (hop : ok64 p) : FnOK Try.prog 7 [soloLV x, di p] (rb true) := by
  have hs := ho.small
  obtain ⟨v, hv, cv⟩ := szSoloE x hs
  by_cases hneg : v < 0
  · refine fn_of lv7 Try.func7 rfl rfl (by kernel_rfl) rfl ?_
    refine .inl ⟨_, _, rfl, cv, rfl, ?_⟩
    refine bsplit_of_true (decide_eq_true hneg) ?_
    exact ⟨⟨rfl, trivial⟩, rfl⟩
  obtain ⟨hf, hp, hm⟩ := hv hneg
  have ct := c_laws_toSolo x hs
  have cs := c_spec_SoloWords x hs hp hm p
  have ci := c_impl_SoloWords x hs hp hm p
  have hl := soloWords_len x p
  have ce := c_laws_eqSolo x x hs
  have cm := c_laws_markSolo x 1 hf hp hm (by omega) (by omega)
  obtain ⟨q, hq⟩ : ∃ q, q = soloWords x p := ⟨_, rfl⟩
  rw [← hq] at cs ci hl
  have hk0 : ¬ sK6 x 1 < 0 := by
    have := (hK_le x.hart 1 hf (by omega) (by omega)).2.2.2.1
    show ¬ hK4 x.hart 1 + 2 * (x.pages.length : Int) + x.mem.length < 0
    omega
  have hk : ¬ (1 : Int) + q.2.length < 0 := by omega
  refine fn_of lv7 Try.func7 rfl rfl (by kernel_rfl) rfl ?_
  refine .inl ⟨_, _, rfl, cv, rfl, ?_⟩
  refine bsplit_of_false (decide_eq_false hneg) ?_
  refine .inl ⟨_, _, rfl, ct, rfl, ?_⟩
  refine .inl ⟨_, _, rfl, cs, rfl, ?_⟩
  refine .inl ⟨_, _, rfl, ct, rfl, ?_⟩
  refine .inl ⟨_, _, rfl, ci, rfl, ?_⟩
  refine .inl ⟨_, _, rfl, c_laws_eqIntsResult q q (by omega), rfl, ?_⟩
  repeat' (first | refine bsplit_true ?_ | refine bsplit_false ?_ | refine chk_intro (by kernel_rfl) ?_ | refine bsplit_of_false (by simp; done) ?_)
  refine .inl ⟨_, _, rfl, ct, rfl, ?_⟩
  refine .inl ⟨_, _, rfl, ce, rfl, ?_⟩
  repeat' (first | refine bsplit_true ?_ | refine bsplit_false ?_ | refine chk_intro (by kernel_rfl) ?_ | refine bsplit_of_false (by simp; done) ?_)
  refine .inr ⟨rfl, use_mut ⟨_, _, _, _, _, _, rfl, rfl, cm, rfl, ?_⟩⟩
  repeat' (first | refine bsplit_true ?_ | refine bsplit_false ?_ | refine chk_intro (by kernel_rfl) ?_)
  try refine bsplit_of_false (decide_eq_false hk0) ?_
  repeat' (first | refine bsplit_true ?_ | refine bsplit_false ?_ | refine chk_intro (by kernel_rfl) ?_ | refine bsplit_of_false (by simp; done) ?_)
  refine .inl ⟨_, _, rfl, c_laws_eqIntsResult q q (by omega), rfl, ?_⟩
  repeat' (first | refine bsplit_true ?_ | refine bsplit_false ?_ | refine chk_intro (by kernel_rfl) ?_ | refine bsplit_of_false (by simp; done) ?_)
  refine .inr ⟨rfl, use_mut ⟨_, _, _, _, _, _, rfl, rfl, c_laws_markIntsResult q 1 (by omega) (by omega) (by omega), rfl, ?_⟩⟩
  repeat' (first | refine bsplit_true ?_ | refine bsplit_false ?_ | refine chk_intro (by kernel_rfl) ?_)
  refine .inl ⟨_, _, rfl, c_laws_heldIntsResult q 1 (by omega) (by omega) (by omega), rfl, ?_⟩
  repeat' (first | refine bsplit_true ?_ | refine bsplit_false ?_ | refine chk_intro (by kernel_rfl) ?_)
  try refine bsplit_of_false (decide_eq_false hk) ?_
  repeat' (first | refine bsplit_true ?_ | refine bsplit_false ?_ | refine chk_intro (by kernel_rfl) ?_ | refine bsplit_of_false (by simp; done) ?_)
  refine .inl ⟨_, _, rfl, ct, rfl, ?_⟩
  refine .inl ⟨_, _, rfl, ci, rfl, ?_⟩
  refine .inl ⟨_, _, rfl, c_laws_eqIntsResult q q (by omega), rfl, ?_⟩
  repeat' (first | refine bsplit_true ?_ | refine bsplit_false ?_ | refine chk_intro (by kernel_rfl) ?_ | refine bsplit_of_false (by simp; done) ?_)
  refine .inl ⟨_, _, rfl, c_laws_heldIntsResult q 1 (by omega) (by omega) (by omega), rfl, ?_⟩
  repeat' (first | refine bsplit_true ?_ | refine bsplit_false ?_ | refine chk_intro (by kernel_rfl) ?_)
  try refine bsplit_of_false (decide_eq_false hk) ?_
  repeat' (first | refine bsplit_true ?_ | refine bsplit_false ?_ | refine chk_intro (by kernel_rfl) ?_ | refine bsplit_of_false (by simp; done) ?_)
  exact ⟨⟨rfl, trivial⟩, rfl⟩
end Go.Proofs.Ytfcekiehcchebaa.L
