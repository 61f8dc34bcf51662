/- What the law functions compute on an answer that is a code and a row of words: contracts. -/
import Derived.Test.YtfcekiehcchebaaQe
set_option linter.unusedVariables false
set_option linter.unusedSimpArgs false
set_option maxRecDepth 100000
namespace Go.Proofs.Ytfcekiehcchebaa.L
open Go.RowKit
theorem c_laws_eqIntsResult (p q : Int × List Int) (hs : p.2.length ≤ 9223372036854775807) : FnOK Try.prog 39 [irsLV p, irsLV q] (rb (decide (p = q))) := by
  refine fn_of lv39 Try.func39 rfl rfl (by kernel_rfl) rfl ?_
  repeat' (first | refine bsplit_true ?_ | refine bsplit_false ?_ | refine .inl ⟨_, _, rfl, c_laws_eqInt64S p.2 q.2 hs, rfl, ?_⟩ | refine bsplit_intro (fun h => ?_) (fun h => ?_))
  all_goals refine ⟨⟨congrArg Value.bool ?_, trivial⟩, rfl⟩
  all_goals (obtain ⟨a1, a2⟩ := p; obtain ⟨b1, b2⟩ := q; simp_all)
theorem c_laws_markIntsResult (p : Int × List Int) (k : Int) (hf : p.2.length ≤ 1099511627776) (hk : 0 ≤ k) (hk2 : k ≤ 1099511627776) : MutOK Try.prog 41 [.agg [di p.1, .row 0], di k] 1 [(0, rowE p.2)] (di (k + p.2.length)) 1 [(0, rowM p.2 k)] := by
  refine mut_fn_of lv41 Try.func41 rfl rfl (by kernel_rfl) rfl [] ?_
  refine .inr ⟨rfl, use_mut ⟨_, _, _, _, _, _, rfl, rfl, c_laws_markInt64S p.2 k hf hk hk2, rfl, ?_⟩⟩
  exact chk_intro (by kernel_rfl) ⟨tellV_v rfl rfl, tellHp_row rfl rfl rfl (fun j hj => rfl) tellHp_nil⟩
theorem c_laws_heldIntsResult (p : Int × List Int) (k : Int) (hf : p.2.length ≤ 1099511627776) (hk : 0 ≤ k) (hk2 : k ≤ 1099511627776) : FnOK Try.prog 42 [.agg [di p.1, datM p.2 k], di k] (ri (k + p.2.length)) := by
  refine fn_of lv42 Try.func42 rfl rfl (by kernel_rfl) rfl ?_
  refine .inl ⟨_, _, rfl, c_laws_heldInt64S k p.2.length hf hk hk2, rfl, ?_⟩
  refine bsplit_of_false (decide_eq_false (show ¬ k + (p.2.length : Int) < 0 by omega)) ?_
  exact ⟨⟨rfl, trivial⟩, rfl⟩
end Go.Proofs.Ytfcekiehcchebaa.L
