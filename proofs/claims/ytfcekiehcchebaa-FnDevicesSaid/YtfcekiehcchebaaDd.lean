/- What the functions compute that draw a machine and what is done to it: contracts. -/
import Derived.Test.YtfcekiehcchebaaDc
set_option linter.unusedVariables false
set_option linter.unusedSimpArgs false
set_option maxRecDepth 100000
namespace Go.Proofs.Ytfcekiehcchebaa.L
open Go.RowKit
abbrev hartSh (m : HartM) : RV1 := .agg [.sh (ints m.regs), .v (.int .i64 m.pc), .sh (ints m.csr), .v (.bool m.halted), .v (.bool m.waiting), .v (.bool m.rung), .v (.int .i64 m.done), .sh (ints m.inp), .sh (ints m.out)]
theorem c_laws_lwBig (c : List Int) (hc : c.length ≤ 9223372036854775807) : FnOK Try.prog 29 [.d (bytesD c)] (rb (decide ((c.length : Int) > 1048576))) := by
  refine fn_of lv29 Try.func29 rfl rfl (by kernel_rfl) rfl ?_
  exact ⟨⟨rfl, trivial⟩, rfl⟩
theorem c_laws_lwNums (l m : List Int) (hl : l.length ≤ 9223372036854775807) : FnOK Try.prog 34 [.d (ints l), .d (ints m)] (rb (l == m)) := by
  refine fn_of lv34 Try.func34 rfl rfl rfl rfl ?_
  refine bsplit_intro (fun h => ?_) (fun h => ?_)
  · refine ⟨⟨congrArg Value.bool (?_ : false = _), trivial⟩, rfl⟩
    simp at h
    symm
    rw [beq_eq_false_iff_ne]
    rintro rfl
    exact h rfl
  have hlen : l.length = m.length := by simp at h; omega
  refine ⟨{ i : Nat // i ≤ l.length ∧ (l.drop i == m.drop i) = (l == m) }, fun i => ⟨frL [(0, .d (ints l)), (1, .d (ints m)), (5, di i.1)], hpL [], 0, 0⟩, fun i => l.length - i.1, ⟨0, by simp⟩,
    le_of [] rfl rfl rfl rfl trivial (tellFr_d rfl (DLe.refl _) (tellFr_d rfl (DLe.refl _) (tellFr_v rfl rfl trivial))), ?_⟩
  rintro ⟨i, hi, hall⟩
  refine bsplit_intro (fun h => ?_) (fun h => ?_)
  · have h : i < l.length := by simp at h; exact h
    have hd : (l.drop i == m.drop i) = ((l.getD i 0 == m.getD i 0) && (l.drop (i + 1) == m.drop (i + 1))) := by
      rw [drop_cons l i h, drop_cons m i (by omega)]
      exact List.cons_beq_cons
    refine ask_intro ⟨by omega, by simp; omega, rfl⟩ ?_
    refine ask_intro ⟨by omega, by simp; omega, rfl⟩ ?_
    refine chk_intro rfl ?_
    refine bsplit_intro (fun h2 => ?_) (fun h2 => ?_)
    · refine ⟨⟨congrArg Value.bool (?_ : false = _), trivial⟩, rfl⟩
      have h2 : (l.getD i 0 != m.getD i 0) = true := h2
      rw [← hall, hd]
      have h2 : (l.getD i 0 == m.getD i 0) = false := by simpa [bne] using h2
      rw [h2]; rfl
    · have h2 : (l.getD i 0 != m.getD i 0) = false := h2
      refine ⟨⟨i + 1, by omega, ?_⟩, le_of [] rfl rfl rfl rfl trivial (tellFr_d rfl (DLe.refl _) (tellFr_d rfl (DLe.refl _) (tellFr_v rfl (congrArg (Value.int .i64) (?_ : IntKind.i64.wrap ((i : Int) + 1) = ((i + 1 : Nat) : Int))) trivial))), ?_⟩
      · rw [← hall, hd]
        have h2 : (l.getD i 0 == m.getD i 0) = true := by simpa [bne] using h2
        rw [h2]; rfl
      · exact wrap_i64 (i + 1) (by omega) (by omega)
      · show l.length - (i + 1) < l.length - i
        omega
  · refine ⟨⟨congrArg Value.bool (?_ : true = _), trivial⟩, rfl⟩
    simp at h
    rw [← hall, List.drop_eq_nil_of_le h, List.drop_eq_nil_of_le (by omega)]; rfl
end Go.Proofs.Ytfcekiehcchebaa.L
