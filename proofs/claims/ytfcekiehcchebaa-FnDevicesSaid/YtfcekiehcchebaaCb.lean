/- What the functions that look at a machine compute: contracts, for machines that fit into memory. -/
import Derived.Test.YtfcekiehcchebaaCa
set_option linter.unusedVariables false
set_option linter.unusedSimpArgs false
set_option maxRecDepth 100000
namespace Go.Proofs.Ytfcekiehcchebaa.L
open Go.RowKit
structure HartM where
  regs : List Int
  pc : Int
  csr : List Int
  halted : Bool
  waiting : Bool
  rung : Bool
  done : Int
  inp : List Int
  out : List Int
  deriving DecidableEq
abbrev dI (n : Int) : D := .v (.int .i64 n)
abbrev dB (n : Bool) : D := .v (.bool n)
abbrev hartD (h : HartM) : List D := [ints h.regs, dI h.pc, ints h.csr, dB h.halted, dB h.waiting, dB h.rung, dI h.done, ints h.inp, ints h.out]
abbrev hartLV (h : HartM) : LV := .agg [.d (ints h.regs), di h.pc, .d (ints h.csr), dv (.bool h.halted), dv (.bool h.waiting), dv (.bool h.rung), di h.done, .d (ints h.inp), .d (ints h.out)]
abbrev hartR (h : HartM) : RV1 := .agg [oInts h.regs, .v (.int .i64 h.pc), oInts h.csr, .v (.bool h.halted), .v (.bool h.waiting), .v (.bool h.rung), .v (.int .i64 h.done), oInts h.inp, oInts h.out]

structure HartM.small (h : HartM) : Prop where
  regs : h.regs.length * 8 ≤ 140737488355328
  csr : h.csr.length * 8 ≤ 140737488355328
  inp : h.inp.length * 8 ≤ 140737488355328
  out : h.out.length * 8 ≤ 140737488355328

theorem c_laws_toHart (h : HartM) (hs : h.small) : FnOK Try.prog 20 [hartLV h] (.r (hartR h)) := by
  refine fn_of lv20 Try.func20 rfl rfl rfl rfl ?_
  refine .inl ⟨_, _, rfl, c_laws_toInt64S _ hs.regs, rfl, ?_⟩
  refine .inl ⟨_, _, rfl, c_laws_toInt64S _ hs.csr, rfl, ?_⟩
  refine .inl ⟨_, _, rfl, c_laws_toInt64S _ hs.inp, rfl, ?_⟩
  refine .inl ⟨_, _, rfl, c_laws_toInt64S _ hs.out, rfl, ?_⟩
  refine ⟨⟨?_, ?_, ?_, ?_, ?_, ?_, ?_, ?_, ?_, trivial⟩, rfl⟩
  · exact ⟨rfl, rfl, rfl, fun i hi => ⟨rfl, rfl⟩⟩
  · rfl
  · exact ⟨rfl, rfl, rfl, fun i hi => ⟨rfl, rfl⟩⟩
  · rfl
  · rfl
  · rfl
  · rfl
  · exact ⟨rfl, rfl, rfl, fun i hi => ⟨rfl, rfl⟩⟩
  · exact ⟨rfl, rfl, rfl, fun i hi => ⟨rfl, rfl⟩⟩
theorem HartM.small.lens {h : HartM} (hs : h.small) : h.regs.length ≤ 9223372036854775807 ∧ h.csr.length ≤ 9223372036854775807 ∧ h.inp.length ≤ 9223372036854775807 ∧ h.out.length ≤ 9223372036854775807 := by
  obtain ⟨h1, h2, h3, h4⟩ := hs
  omega

def hFault (h : HartM) : Int :=
  bif ((h.regs.length : Int) != 16) || (((h.csr.length : Int) != 11) || (h.regs.getD 0 0 != 0)) then 1 else
  bif !(h.regs.all isW) || (!(isW h.pc) || (!(h.csr.all isW) || (!(h.inp.all isW) || !(h.out.all isW)))) then 3 else
  bif decide ((h.inp.length : Int) > 40) || decide ((h.out.length : Int) > 40) then 2 else
  bif !(inR h.done 0 1000000000) then 3 else
  bif decide (h.csr.getD 0 0 > 3) || (decide (h.csr.getD 7 0 > 7) || (decide (h.csr.getD 10 0 > 8) || ((h.csr.getD 6 0 != 0) || (h.csr.getD 8 0 != 0)))) then 1 else 0

theorem c_spec_l8Fault (m : HartM) (hs : m.small) : FnOK Try.prog 70 [.dptr (hartD m)] (ri (hFault m)) := by
  obtain ⟨q1, q2, q3, q4⟩ := hs.lens
  refine fn_of lv70 Try.func70 rfl rfl rfl rfl ?_
  refine bsplit_intro (fun h1 => ?_) (fun h1 => ?_)
  · repeat' (first | refine bsplit_true ?_ | refine bsplit_false ?_)
    refine ⟨⟨congrArg (Value.int .i64) (?_ : (1 : Int) = _), trivial⟩, rfl⟩
    simp only [hFault, h1, Bool.true_or, cond_true]
  repeat' (first | refine bsplit_true ?_ | refine bsplit_false ?_)
  refine bsplit_intro (fun h2 => ?_) (fun h2 => ?_)
  · repeat' (first | refine bsplit_true ?_ | refine bsplit_false ?_)
    refine ⟨⟨congrArg (Value.int .i64) (?_ : (1 : Int) = _), trivial⟩, rfl⟩
    simp only [hFault, h1, h2, Bool.true_or, Bool.or_true, cond_true]
  have e1 : m.regs.length = 16 := by simp at h1; omega
  have e2 : m.csr.length = 11 := by simp at h2; omega
  repeat' (first | refine bsplit_true ?_ | refine bsplit_false ?_)
  refine ask_intro ⟨by omega, by show (0 : Int) < m.regs.length; omega, rfl⟩ ?_
  repeat' (first | refine bsplit_true ?_ | refine bsplit_false ?_)
  refine bsplit_intro (fun h3 => ?_) (fun h3 => ?_)
  · refine ⟨⟨congrArg (Value.int .i64) (?_ : (1 : Int) = _), trivial⟩, rfl⟩
    have h3 : (m.regs.getD 0 0 != 0) = true := h3
    simp only [hFault, h3, Bool.true_or, Bool.or_true, cond_true]
  have h3 : (m.regs.getD 0 0 != 0) = false := h3
  all_goals repeat' (first | refine bsplit_true ?_ | refine bsplit_false ?_ | refine .inl ⟨_, _, rfl, c_spec_l8All _ (by assumption), rfl, ?_⟩ | refine .inl ⟨_, _, rfl, c_spec_l8Word _, rfl, ?_⟩ | refine .inl ⟨_, _, rfl, c_spec_l1In _ _ _, rfl, ?_⟩ | refine bsplit_intro (fun h => ?_) (fun h => ?_) | refine ask_intro ⟨by omega, by show (_ : Int) < m.csr.length; omega, rfl⟩ ?_)
  all_goals refine ⟨⟨congrArg (Value.int .i64) ?_, trivial⟩, rfl⟩
  all_goals clear e1 e2
  all_goals simp only [Int.reduceToNat] at *
  all_goals simp only [hFault, *, Bool.true_or, Bool.or_true, Bool.false_or, Bool.or_self, cond_true, cond_false]
theorem c_impl_HartFault (m : HartM) (hs : m.small) : FnOK Try.prog 33 [hartLV m] (ri (hFault m)) := by
  obtain ⟨q1, q2, q3, q4⟩ := hs.lens
  refine fn_of lv33 Try.func33 rfl rfl rfl rfl ?_
  refine bsplit_intro (fun h1 => ?_) (fun h1 => ?_)
  · repeat' (first | refine bsplit_true ?_ | refine bsplit_false ?_)
    refine ⟨⟨congrArg (Value.int .i64) (?_ : (1 : Int) = _), trivial⟩, rfl⟩
    simp only [hFault, h1, Bool.true_or, cond_true]
  repeat' (first | refine bsplit_true ?_ | refine bsplit_false ?_)
  refine bsplit_intro (fun h2 => ?_) (fun h2 => ?_)
  · repeat' (first | refine bsplit_true ?_ | refine bsplit_false ?_)
    refine ⟨⟨congrArg (Value.int .i64) (?_ : (1 : Int) = _), trivial⟩, rfl⟩
    simp only [hFault, h1, h2, Bool.true_or, Bool.or_true, cond_true]
  have e1 : m.regs.length = 16 := by simp at h1; omega
  have e2 : m.csr.length = 11 := by simp at h2; omega
  repeat' (first | refine bsplit_true ?_ | refine bsplit_false ?_)
  refine ask_intro ⟨by omega, by show (0 : Int) < m.regs.length; omega, rfl⟩ ?_
  repeat' (first | refine bsplit_true ?_ | refine bsplit_false ?_)
  refine bsplit_intro (fun h3 => ?_) (fun h3 => ?_)
  · repeat' (first | refine bsplit_true ?_ | refine bsplit_false ?_)
    refine ⟨⟨congrArg (Value.int .i64) (?_ : (1 : Int) = _), trivial⟩, rfl⟩
    have h3 : (m.regs.getD 0 0 != 0) = true := h3
    simp only [hFault, h3, Bool.true_or, Bool.or_true, cond_true]
  have h3 : (m.regs.getD 0 0 != 0) = false := h3
  all_goals repeat' (first | refine bsplit_true ?_ | refine bsplit_false ?_ | refine .inl ⟨_, _, rfl, c_impl_areWords _ (by assumption), rfl, ?_⟩ | refine .inl ⟨_, _, rfl, c_impl_isWord _, rfl, ?_⟩ | refine .inl ⟨_, _, rfl, c_impl_within _ _ _, rfl, ?_⟩ | refine bsplit_intro (fun h => ?_) (fun h => ?_) | refine ask_intro ⟨by omega, by show (_ : Int) < m.csr.length; omega, rfl⟩ ?_)
  all_goals refine ⟨⟨congrArg (Value.int .i64) ?_, trivial⟩, rfl⟩
  all_goals clear e1 e2
  all_goals simp only [Int.reduceToNat] at *
  all_goals simp only [hFault, *, Bool.true_or, Bool.or_true, Bool.false_or, Bool.or_self, cond_true, cond_false]

def hSz (m : HartM) (q : Int) : Int :=
  let q1 := q - m.regs.length
  let q2 := q1 - m.csr.length
  let q3 := q2 - m.inp.length
  let q4 := q3 - m.out.length
  if q1 < 0 ∨ q2 < 0 ∨ q3 < 0 ∨ q4 < 0 then -1 else q4
theorem c_laws_szInt64Sn (l : List Int) (q : Int) (hq : -9223372036854775808 ≤ q - l.length) (h : q - l.length < 0) : FnOK Try.prog 69 [.d (ints l), di q] (ri (-1)) := by
  have := c_laws_szInt64S l q hq (by omega)
  rwa [if_pos h] at this
theorem c_laws_szInt64Sp (l : List Int) (q : Int) (hq : q - l.length < 9223372036854775808) (h : ¬ q - l.length < 0) : FnOK Try.prog 69 [.d (ints l), di q] (ri (q - l.length)) := by
  have := c_laws_szInt64S l q (by omega) hq
  rwa [if_neg h] at this
theorem c_laws_szHart (m : HartM) (hs : m.small) (q : Int) (hq : 0 ≤ q) (hq2 : q ≤ 1048576) : FnOK Try.prog 18 [hartLV m, di q] (ri (hSz m q)) := by
  obtain ⟨l1, l2, l3, l4⟩ := hs.lens
  refine fn_of lv18 Try.func18 rfl rfl rfl rfl ?_
  unfold hSz
  by_cases h1 : q - m.regs.length < 0
  · refine .inl ⟨_, _, rfl, c_laws_szInt64Sn _ q (by omega) h1, rfl, ?_⟩
    repeat' (first | refine bsplit_true ?_ | refine bsplit_false ?_)
    exact ⟨⟨congrArg (Value.int .i64) (if_pos (.inl h1)).symm, trivial⟩, rfl⟩
  refine .inl ⟨_, _, rfl, c_laws_szInt64Sp _ q (by omega) h1, rfl, bsplit_of_false (decide_eq_false h1) ?_⟩
  by_cases h2 : q - m.regs.length - m.csr.length < 0
  · refine .inl ⟨_, _, rfl, c_laws_szInt64Sn _ _ (by omega) h2, rfl, ?_⟩
    repeat' (first | refine bsplit_true ?_ | refine bsplit_false ?_)
    exact ⟨⟨congrArg (Value.int .i64) (if_pos (.inr (.inl h2))).symm, trivial⟩, rfl⟩
  refine .inl ⟨_, _, rfl, c_laws_szInt64Sp _ _ (by omega) h2, rfl, bsplit_of_false (decide_eq_false h2) ?_⟩
  by_cases h3 : q - m.regs.length - m.csr.length - m.inp.length < 0
  · refine .inl ⟨_, _, rfl, c_laws_szInt64Sn _ _ (by omega) h3, rfl, ?_⟩
    repeat' (first | refine bsplit_true ?_ | refine bsplit_false ?_)
    exact ⟨⟨congrArg (Value.int .i64) (if_pos (.inr (.inr (.inl h3)))).symm, trivial⟩, rfl⟩
  refine .inl ⟨_, _, rfl, c_laws_szInt64Sp _ _ (by omega) h3, rfl, bsplit_of_false (decide_eq_false h3) ?_⟩
  by_cases h4 : q - m.regs.length - m.csr.length - m.inp.length - m.out.length < 0
  · refine .inl ⟨_, _, rfl, c_laws_szInt64Sn _ _ (by omega) h4, rfl, ?_⟩
    repeat' (first | refine bsplit_true ?_ | refine bsplit_false ?_)
    exact ⟨⟨congrArg (Value.int .i64) (if_pos (.inr (.inr (.inr h4)))).symm, trivial⟩, rfl⟩
  refine .inl ⟨_, _, rfl, c_laws_szInt64Sp _ _ (by omega) h4, rfl, bsplit_of_false (decide_eq_false h4) ?_⟩
  exact ⟨⟨congrArg (Value.int .i64) (if_neg (by rintro (h | h | h | h) <;> contradiction)).symm, trivial⟩, rfl⟩

theorem c_laws_eqHart (m n : HartM) (hs : m.small) : FnOK Try.prog 23 [hartLV m, hartLV n] (rb (decide (m = n))) := by
  obtain ⟨l1, l2, l3, l4⟩ := hs.lens
  refine fn_of lv23 Try.func23 rfl rfl rfl rfl ?_
  repeat' (first | refine bsplit_true ?_ | refine bsplit_false ?_ | refine .inl ⟨_, _, rfl, c_laws_eqInt64S _ _ (by assumption), rfl, ?_⟩ | refine bsplit_intro (fun h => ?_) (fun h => ?_))
  all_goals refine ⟨⟨congrArg Value.bool ?_, trivial⟩, rfl⟩
  all_goals (obtain ⟨a1, a2, a3, a4, a5, a6, a7, a8, a9⟩ := m; obtain ⟨b1, b2, b3, b4, b5, b6, b7, b8, b9⟩ := n; simp_all)

end Go.Proofs.Ytfcekiehcchebaa.L
