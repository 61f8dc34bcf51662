/- What the functions compute that copy and ring a machine: contracts. -/
import Derived.Test.YtfcekiehcchebaaCe
set_option linter.unusedVariables false
set_option linter.unusedSimpArgs false
set_option maxRecDepth 100000
namespace Go.Proofs.Ytfcekiehcchebaa.L
open Go.RowKit
theorem c_spec_l8Copy (m : HartM) (hs : m.small) : FnOK Try.prog 78 [hartLV m] (.r (hartR m)) := by
  obtain ⟨s1, s2, s3, s4⟩ := hs
  refine fn_of lv78 Try.func78 rfl rfl (by kernel_rfl) rfl ?_
  refine ask_intro ⟨by show (0 + m.regs.length) * 8 ≤ 140737488355328; omega, by omega, fun i hi => rfl⟩ ?_
  refine ask_intro ⟨by show (0 + m.csr.length) * 8 ≤ 140737488355328; omega, by omega, fun i hi => rfl⟩ ?_
  refine ask_intro ⟨by show (0 + m.inp.length) * 8 ≤ 140737488355328; omega, by omega, fun i hi => rfl⟩ ?_
  refine ask_intro ⟨by show (0 + m.out.length) * 8 ≤ 140737488355328; omega, by omega, fun i hi => rfl⟩ ?_
  exact ⟨⟨⟨rfl, rfl, Nat.zero_add _, fun i hi => ⟨rfl, rfl⟩⟩, rfl, ⟨rfl, rfl, Nat.zero_add _, fun i hi => ⟨rfl, rfl⟩⟩, rfl, rfl, rfl, rfl, ⟨rfl, rfl, Nat.zero_add _, fun i hi => ⟨rfl, rfl⟩⟩, ⟨rfl, rfl, Nat.zero_add _, fun i hi => ⟨rfl, rfl⟩⟩, trivial⟩, rfl⟩
theorem c_impl_Hart_own (m : HartM) (hs : m.small) : FnOK Try.prog 81 [hartLV m] (.r (hartR m)) := by
  obtain ⟨s1, s2, s3, s4⟩ := hs
  refine fn_of lv81 Try.func81 rfl rfl (by kernel_rfl) rfl ?_
  refine .inl ⟨_, _, rfl, c_slices_Clone m.regs s1, rfl, ?_⟩
  refine .inl ⟨_, _, rfl, c_slices_Clone m.csr s2, rfl, ?_⟩
  refine .inl ⟨_, _, rfl, c_slices_Clone m.inp s3, rfl, ?_⟩
  refine .inl ⟨_, _, rfl, c_slices_Clone m.out s4, rfl, ?_⟩
  exact ⟨⟨⟨rfl, rfl, rfl, fun i hi => ⟨rfl, rfl⟩⟩, rfl, ⟨rfl, rfl, rfl, fun i hi => ⟨rfl, rfl⟩⟩, rfl, rfl, rfl, rfl, ⟨rfl, rfl, rfl, fun i hi => ⟨rfl, rfl⟩⟩, ⟨rfl, rfl, rfl, fun i hi => ⟨rfl, rfl⟩⟩, trivial⟩, rfl⟩
def ringHart (m : HartM) : Int × HartM := if hFault m = 0 then (0, { m with rung := true }) else (hFault m, hartZ)
theorem c_impl_RingHart (m : HartM) (hs : m.small) : FnOK Try.prog 35 [hartLV m] (.r (hrR (ringHart m))) := by
  refine fn_of lv35 Try.func35 rfl rfl (by kernel_rfl) rfl ?_
  refine .inl ⟨_, _, rfl, c_impl_HartFault m hs, rfl, ?_⟩
  refine bsplit_intro (fun h => ?_) (fun h => ?_)
  · have e : ringHart m = (hFault m, hartZ) := if_neg (by simpa using h)
    conv => whnf
    rw [e]
    exact ⟨⟨rfl, ⟨rfl, rfl⟩, rfl, ⟨rfl, rfl⟩, rfl, rfl, rfl, rfl, ⟨rfl, rfl⟩, ⟨rfl, rfl⟩, trivial⟩, rfl⟩
  have e : ringHart m = (0, { m with rung := true }) := if_pos (fault_ne h)
  refine .inl ⟨_, _, rfl, c_impl_Hart_own m hs, rfl, ?_⟩
  conv => whnf
  rw [e]
  exact ⟨⟨rfl, ⟨rfl, rfl, rfl, fun i hi => ⟨rfl, rfl⟩⟩, rfl, ⟨rfl, rfl, rfl, fun i hi => ⟨rfl, rfl⟩⟩, rfl, rfl, rfl, rfl, ⟨rfl, rfl, rfl, fun i hi => ⟨rfl, rfl⟩⟩, ⟨rfl, rfl, rfl, fun i hi => ⟨rfl, rfl⟩⟩, trivial⟩, rfl⟩
end Go.Proofs.Ytfcekiehcchebaa.L
