/- What the functions compute that send a machine back from a trap: contracts. -/
import Derived.Test.YtcllbnancmogfaaCg
set_option linter.unusedVariables false
set_option linter.unusedSimpArgs false
set_option maxRecDepth 100000
namespace Go.Proofs.Ytcllbnancmogfaa.L
open Go.RowKit
def backHart (m : HartM) : Int × HartM := if hFault m = 0 then (0, backM m) else (hFault m, hartZ)
theorem c_spec_BackHart (m : HartM) (hs : m.small) : FnOK Try.prog 34 [hartLV m] (.r (hrR (backHart m))) := by
  refine fn_of lv34 Try.func34 rfl rfl (by kernel_rfl) rfl ?_
  refine .inl ⟨_, _, rfl, c_spec_l8Fault m hs, rfl, ?_⟩
  refine bsplit_intro (fun h => ?_) (fun h => ?_)
  · have e : backHart m = (hFault m, hartZ) := if_neg (by simpa using h)
    conv => whnf
    rw [e]
    exact ⟨⟨rfl, ⟨rfl, rfl⟩, rfl, ⟨rfl, rfl⟩, rfl, rfl, rfl, rfl, ⟨rfl, rfl⟩, ⟨rfl, rfl⟩, trivial⟩, rfl⟩
  have h0 := fault_ne h
  have e : backHart m = (0, backM m) := if_pos h0
  refine .inl ⟨_, _, rfl, c_spec_l8Copy m hs, rfl, ?_⟩
  refine .inr ⟨rfl, use_mut ⟨_, _, _, _, _, _, rfl, rfl, c_spec_l8Back m (hFault_zero h0).2.1, rfl, ?_⟩⟩
  conv => whnf
  rw [e]
  exact ⟨⟨rfl, ⟨rfl, rfl, rfl, fun i hi => ⟨rfl, rfl⟩⟩, rfl, ⟨rfl, rfl, rfl, fun i hi => ⟨rfl, rfl⟩⟩, rfl, rfl, rfl, rfl, ⟨rfl, rfl, rfl, fun i hi => ⟨rfl, rfl⟩⟩, ⟨rfl, rfl, rfl, fun i hi => ⟨rfl, rfl⟩⟩, trivial⟩, rfl⟩
theorem c_impl_BackHart (m : HartM) (hs : m.small) : FnOK Try.prog 35 [hartLV m] (.r (hrR (backHart m))) := by
  refine fn_of lv35 Try.func35 rfl rfl (by kernel_rfl) rfl ?_
  refine .inl ⟨_, _, rfl, c_impl_HartFault m hs, rfl, ?_⟩
  refine bsplit_intro (fun h => ?_) (fun h => ?_)
  · have e : backHart m = (hFault m, hartZ) := if_neg (by simpa using h)
    conv => whnf
    rw [e]
    exact ⟨⟨rfl, ⟨rfl, rfl⟩, rfl, ⟨rfl, rfl⟩, rfl, rfl, rfl, rfl, ⟨rfl, rfl⟩, ⟨rfl, rfl⟩, trivial⟩, rfl⟩
  have h0 := fault_ne h
  have e : backHart m = (0, backM m) := if_pos h0
  refine .inl ⟨_, _, rfl, c_impl_Hart_own m hs, rfl, ?_⟩
  refine .inr ⟨rfl, use_mut ⟨_, _, _, _, _, _, rfl, rfl, c_impl_Hart_back m (hFault_zero h0).2.1, rfl, ?_⟩⟩
  conv => whnf
  rw [e]
  exact ⟨⟨rfl, ⟨rfl, rfl, rfl, fun i hi => ⟨rfl, rfl⟩⟩, rfl, ⟨rfl, rfl, rfl, fun i hi => ⟨rfl, rfl⟩⟩, rfl, rfl, rfl, rfl, ⟨rfl, rfl, rfl, fun i hi => ⟨rfl, rfl⟩⟩, ⟨rfl, rfl, rfl, fun i hi => ⟨rfl, rfl⟩⟩, trivial⟩, rfl⟩
end Go.Proofs.Ytcllbnancmogfaa.L
