/- The law function over new machines answers true. -/
import Derived.Test.YtcllbnancmogfaaCr
import Derived.Test.YtcllbnancmogfaaCe
set_option linter.unusedVariables false
set_option linter.unusedSimpArgs false
set_option maxRecDepth 100000
namespace Go.Proofs.Ytcllbnancmogfaa.L
open Go.RowKit
theorem newHart_few (l : List Int) : (newHart l).2.few ∧ (newHart l).2.small := by
  have z : hartZ.few ∧ hartZ.small := ⟨⟨by decide, by decide, by decide, by decide⟩, ⟨by decide, by decide, by decide, by decide⟩⟩
  unfold newHart
  cases h1 : decide ((l.length : Int) > 40) with
  | true => exact z
  | false =>
    have h1 : l.length ≤ 40 := by simp at h1; omega
    cases h2 : !(l.all isW) with
    | true => exact z
    | false =>
      refine ⟨⟨?_, ?_, ?_, z.1.out⟩, ⟨?_, ?_, ?_, z.2.out⟩⟩
      · show (List.replicate 16 (0 : Int)).length ≤ _; simp
      · show (List.replicate 11 (0 : Int)).length ≤ _; simp
      · show l.length ≤ _; omega
      · show (List.replicate 16 (0 : Int)).length * 8 ≤ _; simp
      · show (List.replicate 11 (0 : Int)).length * 8 ≤ _; simp
      · show l.length * 8 ≤ _; omega
theorem c_laws_FnExactNewHart (l : List Int) (hl : okInts l) : FnOK Try.prog 4 [.d (ints l)] (rb true) := by
  have e := reach_eq
  have hl8 : l.length * 8 ≤ 140737488355328 := by have := hl.1; omega
  obtain ⟨hf, hsm⟩ := newHart_few l
  have cs := c_spec_NewHart l hl8
  have ci := c_impl_NewHart l hl8
  generalize newHart l = p at *
  have hk : ¬ hK4 p.2 1 < 0 := by have := (hK_le p.2 1 hf (by omega) (by omega)).2.2.2.1; omega
  refine fn_of lv4 Try.func4 rfl rfl (by kernel_rfl) rfl ?_
  refine bsplit_intro (fun h => ?_) (fun h => ?_)
  · exact ⟨⟨rfl, trivial⟩, rfl⟩
  have hlen : l.length ≤ 1048576 := by simp at h; omega
  refine .inl ⟨_, _, rfl, c_laws_toInt64S l hl8, rfl, ?_⟩
  refine .inl ⟨_, _, rfl, cs, rfl, ?_⟩
  refine .inl ⟨_, _, rfl, c_laws_toInt64S l hl8, rfl, ?_⟩
  refine .inl ⟨_, _, rfl, ci, rfl, ?_⟩
  refine .inl ⟨_, _, rfl, c_laws_eqHartResult p p hsm, rfl, ?_⟩
  refine bsplit_of_false (by simp) ?_
  refine .inl ⟨_, _, rfl, c_laws_toInt64S l hl8, rfl, ?_⟩
  refine .inl ⟨_, _, rfl, c_laws_eqInt64S l l (by omega), rfl, ?_⟩
  refine bsplit_of_false (by simp) ?_
  refine .inr ⟨rfl, use_mut ⟨_, _, _, _, _, _, rfl, rfl, c_laws_markInt64S l 1 (by omega) (by omega) (by omega), rfl, ?_⟩⟩
  refine bsplit_of_false (decide_eq_false (by omega)) ?_
  repeat' (first | refine bsplit_true ?_ | refine bsplit_false ?_)
  refine .inl ⟨_, _, rfl, c_laws_eqHartResult p p hsm, rfl, ?_⟩
  repeat' (first | refine bsplit_true ?_ | refine bsplit_false ?_)
  refine bsplit_of_false (by simp) ?_
  refine .inr ⟨rfl, use_mut ⟨_, _, _, _, _, _, rfl, rfl, c_laws_markHartResult p 1 hf (by omega) (by omega), rfl, ?_⟩⟩
  refine .inl ⟨_, _, rfl, c_laws_heldHartResult p 1 hf (by omega) (by omega), rfl, ?_⟩
  refine bsplit_of_false (decide_eq_false hk) ?_
  refine bsplit_of_false (by simp) ?_
  refine .inl ⟨_, _, rfl, c_laws_toInt64S l hl8, rfl, ?_⟩
  refine .inl ⟨_, _, rfl, ci, rfl, ?_⟩
  refine .inl ⟨_, _, rfl, c_laws_eqHartResult p p hsm, rfl, ?_⟩
  refine bsplit_of_false (by simp) ?_
  refine .inl ⟨_, _, rfl, c_laws_heldHartResult p 1 hf (by omega) (by omega), rfl, ?_⟩
  refine bsplit_of_false (decide_eq_false hk) ?_
  refine bsplit_of_false (by simp) ?_
  exact ⟨⟨rfl, trivial⟩, rfl⟩
end Go.Proofs.Ytcllbnancmogfaa.L
