/- The law functions over a machine's pending bits and numbers answer true. -/
import Derived.Test.YtcllbnancmogfaaCr
import Derived.Test.YtcllbnancmogfaaCc
set_option linter.unusedVariables false
set_option linter.unusedSimpArgs false
set_option maxRecDepth 100000
namespace Go.Proofs.Ytcllbnancmogfaa.L
open Go.RowKit
theorem c_laws_FnExactPendingOf (m : HartM) (ho : m.ok) : FnOK Try.prog 5 [hartLV m] (rb true) := by
  have hs := ho.small
  refine fn_of lv5 Try.func5 rfl rfl (by kernel_rfl) rfl ?_
  refine .inl ⟨_, _, rfl, c_laws_szHart m hs _ (by decide) (by decide), rfl, ?_⟩
  refine bsplit_intro (fun h => ?_) (fun h => ?_)
  · exact ⟨⟨rfl, trivial⟩, rfl⟩
  refine .inl ⟨_, _, rfl, c_laws_toHart m hs, rfl, ?_⟩
  refine .inl ⟨_, _, rfl, c_spec_PendingOf m hs, rfl, ?_⟩
  refine .inl ⟨_, _, rfl, c_laws_toHart m hs, rfl, ?_⟩
  refine .inl ⟨_, _, rfl, c_impl_PendingOf m hs, rfl, ?_⟩
  refine .inl ⟨_, _, rfl, c_laws_eqIntResult (pendingOf m) (pendingOf m), rfl, ?_⟩
  refine bsplit_of_false (by simp) ?_
  refine .inl ⟨_, _, rfl, c_laws_toHart m hs, rfl, ?_⟩
  refine .inl ⟨_, _, rfl, c_laws_eqHart m m hs, rfl, ?_⟩
  refine chk_intro (by kernel_rfl) ?_
  refine bsplit_of_false (by simp) ?_
  exact ⟨⟨rfl, trivial⟩, rfl⟩
theorem c_laws_FnExactGetCsr (m : HartM) (k : Int) (ho : m.ok) (hk : ok64 k) : FnOK Try.prog 6 [hartLV m, di k] (rb true) := by
  have hs := ho.small
  refine fn_of lv6 Try.func6 rfl rfl (by kernel_rfl) rfl ?_
  refine .inl ⟨_, _, rfl, c_laws_szHart m hs _ (by decide) (by decide), rfl, ?_⟩
  refine bsplit_intro (fun h => ?_) (fun h => ?_)
  · exact ⟨⟨rfl, trivial⟩, rfl⟩
  refine .inl ⟨_, _, rfl, c_laws_toHart m hs, rfl, ?_⟩
  refine .inl ⟨_, _, rfl, c_spec_GetCsr m hs k, rfl, ?_⟩
  refine .inl ⟨_, _, rfl, c_laws_toHart m hs, rfl, ?_⟩
  refine .inl ⟨_, _, rfl, c_impl_GetCsr m hs k, rfl, ?_⟩
  refine .inl ⟨_, _, rfl, c_laws_eqIntResult (getCsr m k) (getCsr m k), rfl, ?_⟩
  refine bsplit_of_false (by simp) ?_
  refine .inl ⟨_, _, rfl, c_laws_toHart m hs, rfl, ?_⟩
  refine .inl ⟨_, _, rfl, c_laws_eqHart m m hs, rfl, ?_⟩
  refine chk_intro (by kernel_rfl) ?_
  refine bsplit_of_false (by simp) ?_
  exact ⟨⟨rfl, trivial⟩, rfl⟩
end Go.Proofs.Ytcllbnancmogfaa.L
