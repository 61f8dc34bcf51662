/- The symbolic logic and the contracts that the proof leans on, part 1. -/
import Derived.Test.YtojaakpnpdnbhaaLt
import Derived.Test.YtojaakpnpdnbhaaLr
import Derived.Test.YtojaakpnpdnbhaaLs
import Derived.Test.YtojaakpnpdnbhaaLy
/- What the functions over words and rows of words compute: contracts, for rows that fit into memory. -/
set_option linter.unusedVariables false
set_option linter.unusedSimpArgs false
set_option maxRecDepth 100000
namespace Go.Proofs.Ytojaakpnpdnbhaa.L
open Go.RowKit
abbrev dv (v : Value) : LV := .d (.v v)
abbrev di (n : Int) : LV := .d (.v (.int .i64 n))
abbrev rb (b : Bool) : RV := .r (.one (.v (.bool b)))
abbrev ri (n : Int) : RV := .r (.one (.v (.int .i64 n)))
abbrev ints (l : List Int) : D := .l l.length fun i => [.v (.int .i64 (l.getD i 0))]

def inR (n a b : Int) : Bool := decide (a ≤ n) && decide (n ≤ b)
def isW (n : Int) : Bool := inR n 0 4294967295
theorem eqv {α : Type} {f : α → Value} {a b : α} (h : a = b) : f a = f b := by rw [h]

theorem c_impl_within (n a b : Int) : FnOK Try.prog 122 [di n, di a, di b] (rb (inR n a b)) := by
  refine fn_of lv122 Try.func122 rfl rfl rfl rfl ?_
  refine bsplit_intro (fun h => ?_) (fun h => ?_)
  · repeat' (first | refine bsplit_true ?_ | refine bsplit_false ?_)
    refine ⟨⟨congrArg Value.bool (?_ : decide (n ≤ b) = _), trivial⟩, rfl⟩
    simp at h; simp [inR, h]
  · repeat' (first | refine bsplit_true ?_ | refine bsplit_false ?_)
    refine ⟨⟨congrArg Value.bool (?_ : false = _), trivial⟩, rfl⟩
    simp at h; simp [inR]; omega
theorem c_spec_l1In (n a b : Int) : FnOK Try.prog 130 [di n, di a, di b] (rb (inR n a b)) := by
  refine fn_of lv130 Try.func130 rfl rfl rfl rfl ?_
  refine bsplit_intro (fun h => ?_) (fun h => ?_)
  · repeat' (first | refine bsplit_true ?_ | refine bsplit_false ?_)
    refine ⟨⟨congrArg Value.bool (?_ : decide (n ≤ b) = _), trivial⟩, rfl⟩
    simp at h; simp [inR, h]
  · repeat' (first | refine bsplit_true ?_ | refine bsplit_false ?_)
    refine ⟨⟨congrArg Value.bool (?_ : false = _), trivial⟩, rfl⟩
    simp at h; simp [inR]; omega

theorem c_impl_isWord (n : Int) : FnOK Try.prog 180 [di n] (rb (isW n)) := by
  refine fn_of lv180 Try.func180 rfl rfl rfl rfl ?_
  refine .inl ⟨_, _, rfl, c_impl_within _ _ _, rfl, ?_⟩
  exact ⟨⟨rfl, trivial⟩, rfl⟩
theorem c_impl_areWords_1 (n : Int) : FnOK Try.prog 179 [di n] (rb (!isW n)) := by
  refine fn_of lv179 Try.func179 rfl rfl rfl rfl ?_
  refine .inl ⟨_, _, rfl, c_impl_isWord _, rfl, ?_⟩
  exact ⟨⟨rfl, trivial⟩, rfl⟩

theorem drop_all (l : List Int) (p : Int → Bool) (i : Nat) (h : i < l.length) : (l.drop i).all p = (p (l.getD i 0) && (l.drop (i + 1)).all p) := by
  rw [List.drop_eq_getElem_cons h, List.all_cons]
  simp [List.getD, List.getElem?_eq_getElem h]
theorem wrap_i64 (n : Int) (h1 : -9223372036854775808 ≤ n) (h2 : n < 9223372036854775808) : IntKind.i64.wrap n = n := by rw [IntKind.wrap_i64]; omega

theorem c_laws_szInt64S (l : List Int) (q : Int) (hq : -9223372036854775808 ≤ q - l.length) (hq2 : q - l.length < 9223372036854775808) : FnOK Try.prog 75 [.d (ints l), di q] (ri (if q - l.length < 0 then -1 else q - l.length)) := by
  refine fn_of lv75 Try.func75 rfl rfl rfl rfl ?_
  refine bsplit_intro (fun h => ?_) (fun h => ?_)
  · refine ⟨⟨congrArg (Value.int .i64) (?_ : (-1 : Int) = _), trivial⟩, rfl⟩
    rw [wrap_i64 _ hq hq2] at h
    simp only [decide_eq_true_eq] at h
    rw [if_pos h]
  · refine ⟨⟨congrArg (Value.int .i64) (?_ : IntKind.i64.wrap (q - l.length) = _), trivial⟩, rfl⟩
    rw [wrap_i64 _ hq hq2] at h ⊢
    simp only [decide_eq_false_iff_not] at h
    rw [if_neg h]
theorem drop_any (l : List Int) (p : Int → Bool) (i : Nat) (h : i < l.length) : (l.drop i).any p = (p (l.getD i 0) || (l.drop (i + 1)).any p) := by
  rw [List.drop_eq_getElem_cons h, List.any_cons]
  simp [List.getD, List.getElem?_eq_getElem h]
def idxOf (l : List Int) (p : Int → Bool) (i : Nat) : Int := bif (l.drop i).any p then (((l.drop i).findIdx p + i : Nat) : Int) else -1
theorem idx_hit {l : List Int} {p : Int → Bool} {i : Nat} (h : i < l.length) (hp : p (l.getD i 0) = true) : idxOf l p i = i := by
  unfold idxOf
  rw [drop_any l p i h, hp, List.drop_eq_getElem_cons h]
  have : p l[i] = true := by simpa [List.getD, List.getElem?_eq_getElem h] using hp
  rw [List.findIdx_cons, this]
  simp
theorem idx_miss {l : List Int} {p : Int → Bool} {i : Nat} (h : i < l.length) (hp : p (l.getD i 0) = false) : idxOf l p i = idxOf l p (i + 1) := by
  unfold idxOf
  rw [drop_any l p i h, hp, Bool.false_or, List.drop_eq_getElem_cons h]
  have : p l[i] = false := by simpa [List.getD, List.getElem?_eq_getElem h] using hp
  cases (List.drop (i + 1) l).any p with
  | false => rfl
  | true =>
    simp only [cond_true, List.findIdx_cons, this, cond_false]
    omega
theorem idx_end {l : List Int} {p : Int → Bool} {i : Nat} (h : l.length ≤ i) : idxOf l p i = -1 := by
  unfold idxOf
  rw [List.drop_eq_nil_of_le h]; rfl

theorem c_slices_IndexFunc (g : Nat) (p : Int → Bool) (hg : ∀ n, FnOK Try.prog g [di n] (rb (p n))) (l : List Int) (hl : l.length ≤ 9223372036854775807) : FnOK Try.prog 204 [.d (ints l), .fn g []] (ri (idxOf l p 0)) := by
  refine fn_of lv204 Try.func204 rfl rfl rfl rfl ?_
  refine ⟨{ i : Nat // i ≤ l.length ∧ idxOf l p i = idxOf l p 0 }, fun i => ⟨frL [(0, .d (ints l)), (1, .fn g []), (7, di l.length), (8, di i.1)], hpL [], 0, 0⟩, fun i => l.length - i.1, ⟨0, by simp⟩,
    le_of [] rfl rfl rfl rfl trivial (tellFr_d rfl (DLe.refl _) (tellFr_fn rfl trivial (tellFr_v rfl rfl (tellFr_v rfl rfl trivial)))), ?_⟩
  rintro ⟨i, hi, hall⟩
  refine bsplit_intro (fun h => ?_) (fun h => ?_)
  · have h : i < l.length := by simp at h; exact h
    refine ask_intro ⟨by omega, by simp; omega, rfl⟩ ?_
    refine .inl ⟨_, _, rfl, hg _, rfl, ?_⟩
    refine bsplit_intro (fun h2 => ?_) (fun h2 => ?_)
    · refine ⟨⟨congrArg (Value.int .i64) (?_ : (i : Int) = _), trivial⟩, rfl⟩
      rw [← hall]; exact (idx_hit h h2).symm
    · refine ⟨⟨i + 1, by omega, ?_⟩, le_of [] rfl rfl rfl rfl trivial (tellFr_d rfl (DLe.refl _) (tellFr_fn rfl trivial (tellFr_v rfl rfl (tellFr_v rfl (congrArg (Value.int .i64) (?_ : IntKind.i64.wrap ((i : Int) + 1) = ((i + 1 : Nat) : Int))) trivial)))), ?_⟩
      · rw [← hall]; exact (idx_miss h h2).symm
      · exact wrap_i64 (i + 1) (by omega) (by omega)
      · show l.length - (i + 1) < l.length - i
        omega
  · refine ⟨⟨congrArg (Value.int .i64) (?_ : (-1 : Int) = _), trivial⟩, rfl⟩
    simp at h
    rw [← hall, idx_end h]
theorem c_slices_ContainsFunc (g : Nat) (p : Int → Bool) (hg : ∀ n, FnOK Try.prog g [di n] (rb (p n))) (l : List Int) (hl : l.length ≤ 9223372036854775807) : FnOK Try.prog 178 [.d (ints l), .fn g []] (rb (l.any p)) := by
  refine fn_of lv178 Try.func178 rfl rfl rfl rfl ?_
  refine .inl ⟨_, _, rfl, c_slices_IndexFunc g p hg _ hl, rfl, ?_⟩
  refine ⟨⟨congrArg Value.bool (?_ : decide (idxOf l p 0 ≥ 0) = _), trivial⟩, rfl⟩
  unfold idxOf
  rw [List.drop_zero]
  cases l.any p <;> simp
theorem c_impl_areWords (l : List Int) (hl : l.length ≤ 9223372036854775807) : FnOK Try.prog 116 [.d (ints l)] (rb (l.all isW)) := by
  refine fn_of lv116 Try.func116 rfl rfl rfl rfl ?_
  refine .inl ⟨_, _, rfl, c_slices_ContainsFunc 179 (fun n => !isW n) c_impl_areWords_1 _ hl, rfl, ?_⟩
  refine ⟨⟨congrArg Value.bool (?_ : (!(l.any fun n => !isW n)) = _), trivial⟩, rfl⟩
  rw [List.all_eq_not_any_not]
theorem c_slices_Clone (l : List Int) (hl : l.length * 8 ≤ 140737488355328) : FnOK Try.prog 198 [.d (ints l)] (.r (.one (.own 2 1 l.length fun i => [.v (.int .i64 (l.getD i 0))]))) := by
  refine fn_of lv198 Try.func198 rfl rfl rfl rfl ?_
  rintro r hr
  cases r with
  | true =>
    refine bsplit_true ?_
    have : l.length = 0 := by
      rcases Nat.eq_zero_or_pos l.length with h | h
      · exact h
      · exact absurd (hr h) (by simp)
    exact ⟨⟨⟨this, rfl⟩, trivial⟩, rfl⟩
  | false =>
    refine bsplit_false ?_
    refine ask_intro ⟨by show (0 + l.length) * 8 ≤ 140737488355328; omega, by omega, fun i hi => rfl⟩ ?_
    refine ⟨⟨⟨rfl, rfl, ?_, fun i hi => ⟨?_, rfl⟩⟩, trivial⟩, rfl⟩
    · exact Nat.zero_add _
    · rfl
abbrev intsF (l : List Int) (i : Nat) : List D := [.v (.int .i64 (l.getD i 0))]
abbrev oInts (l : List Int) : RC := .own 2 1 l.length (intsF l)
theorem c_laws_toInt64S (l : List Int) (hl : l.length * 8 ≤ 140737488355328) : FnOK Try.prog 25 [.d (ints l)] (.r (.one (oInts l))) := by
  refine fn_of lv25 Try.func25 rfl rfl rfl rfl ?_
  refine ask_intro ⟨rfl, by omega, by show (l.length : Int) * 8 ≤ 140737488355328; omega, by omega⟩ ?_
  refine ⟨{ i : Nat // i ≤ l.length }, fun i => ⟨frL [(0, .d (ints l)), (3, .row 96), (4, di i.1)], hpL [(96, .row 2 1 l.length fun j => if j < i.1 then intsF l j else [.v (.int .i64 0)])], 97, 0⟩, fun i => l.length - i.1, ⟨0, by omega⟩,
    le_of [(96, 4160)] rfl rfl rfl rfl (tellHp_row rfl rfl rfl (fun i hi => rfl) tellHp_nil) (tellFr_d rfl (DLe.refl _) (tellFr_row rfl rfl (tellFr_v rfl rfl trivial))), ?_⟩
  rintro ⟨i, hi⟩
  refine bsplit_intro (fun h => ?_) (fun h => ?_)
  · have h : i < l.length := by simp at h; exact h
    refine ask_intro ⟨by omega, by simp; omega, rfl⟩ ?_
    refine ask_intro ⟨by omega, by simp; omega⟩ ?_
    refine ask_intro (by show i < l.length; exact h) ?_
    refine ⟨⟨i + 1, by omega⟩, le_of [(96, 96)] rfl rfl rfl rfl (tellHp_row rfl rfl rfl (fun j hj => ?_) tellHp_nil) (tellFr_d rfl (DLe.refl _) (tellFr_row rfl rfl (tellFr_v rfl (congrArg (Value.int .i64) (?_ : IntKind.i64.wrap ((i : Int) + 1) = ((i + 1 : Nat) : Int))) trivial))), ?_⟩
    · show (if j = i then _ else if j < i then intsF l j else [.v (.int .i64 0)]) = if j < i + 1 then intsF l j else [.v (.int .i64 0)]
      by_cases h1 : j = i
      · subst h1
        rw [if_pos rfl, if_pos (by omega)]
        simp [splice, intsF]
      · rw [if_neg h1]
        by_cases h2 : j < i
        · rw [if_pos h2, if_pos (by omega)]
        · rw [if_neg h2, if_neg (by omega)]
    · exact wrap_i64 (i + 1) (by omega) (by omega)
    · show l.length - (i + 1) < l.length - i
      omega
  · simp at h
    refine ⟨⟨⟨rfl, rfl, rfl, fun j hj => ⟨?_, rfl⟩⟩, trivial⟩, rfl⟩
    show (if j < i then intsF l j else _) = _
    rw [if_pos (by omega)]
theorem drop_cons (l : List Int) (i : Nat) (h : i < l.length) : l.drop i = l.getD i 0 :: l.drop (i + 1) :=
  (List.drop_eq_getElem_cons h).trans (by rw [show l[i] = l.getD i 0 by simp [List.getD, List.getElem?_eq_getElem h]])
theorem c_laws_eqInt64S (l m : List Int) (hl : l.length ≤ 9223372036854775807) : FnOK Try.prog 28 [.d (ints l), .d (ints m)] (rb (l == m)) := by
  refine fn_of lv28 Try.func28 rfl rfl rfl rfl ?_
  refine bsplit_intro (fun h => ?_) (fun h => ?_)
  · refine ⟨⟨congrArg Value.bool (?_ : false = _), trivial⟩, rfl⟩
    simp at h
    symm
    rw [beq_eq_false_iff_ne]
    rintro rfl
    exact h rfl
  have hlen : l.length = m.length := by simp at h; omega
  refine ⟨{ i : Nat // i ≤ l.length ∧ (l.drop i == m.drop i) = (l == m) }, fun i => ⟨frL [(0, .d (ints l)), (1, .d (ints m)), (5, di i.1)], hpL [], 0, 0⟩, fun i => l.length - i.1, ⟨0, by simp⟩,
    le_of [] rfl rfl rfl rfl trivial (tellFr_d rfl (DLe.refl _) (tellFr_d rfl (DLe.refl _) (tellFr_v rfl rfl trivial))), ?_⟩
  rintro ⟨i, hi, hall⟩
  refine bsplit_intro (fun h => ?_) (fun h => ?_)
  · have h : i < l.length := by simp at h; exact h
    have hd : (l.drop i == m.drop i) = ((l.getD i 0 == m.getD i 0) && (l.drop (i + 1) == m.drop (i + 1))) := by
      rw [drop_cons l i h, drop_cons m i (by omega)]
      exact List.cons_beq_cons
    refine ask_intro ⟨by omega, by simp; omega, rfl⟩ ?_
    refine ask_intro ⟨by omega, by simp; omega, rfl⟩ ?_
    refine chk_intro rfl ?_
    refine bsplit_intro (fun h2 => ?_) (fun h2 => ?_)
    · refine ⟨⟨congrArg Value.bool (?_ : false = _), trivial⟩, rfl⟩
      have h2 : (l.getD i 0 != m.getD i 0) = true := h2
      rw [← hall, hd]
      have h2 : (l.getD i 0 == m.getD i 0) = false := by simpa [bne] using h2
      rw [h2]; rfl
    · have h2 : (l.getD i 0 != m.getD i 0) = false := h2
      refine ⟨⟨i + 1, by omega, ?_⟩, le_of [] rfl rfl rfl rfl trivial (tellFr_d rfl (DLe.refl _) (tellFr_d rfl (DLe.refl _) (tellFr_v rfl (congrArg (Value.int .i64) (?_ : IntKind.i64.wrap ((i : Int) + 1) = ((i + 1 : Nat) : Int))) trivial))), ?_⟩
      · rw [← hall, hd]
        have h2 : (l.getD i 0 == m.getD i 0) = true := by simpa [bne] using h2
        rw [h2]; rfl
      · exact wrap_i64 (i + 1) (by omega) (by omega)
      · show l.length - (i + 1) < l.length - i
        omega
  · refine ⟨⟨congrArg Value.bool (?_ : true = _), trivial⟩, rfl⟩
    simp at h
    rw [← hall, List.drop_eq_nil_of_le h, List.drop_eq_nil_of_le (by omega)]; rfl
end Go.Proofs.Ytojaakpnpdnbhaa.L

/- What the functions that look at a machine compute: contracts, for machines that fit into memory. -/
set_option linter.unusedVariables false
set_option linter.unusedSimpArgs false
set_option maxRecDepth 100000
namespace Go.Proofs.Ytojaakpnpdnbhaa.L
open Go.RowKit
structure HartM where
  regs : List Int
  pc : Int
  csr : List Int
  halted : Bool
  waiting : Bool
  rung : Bool
  done : Int
  inp : List Int
  out : List Int
  deriving DecidableEq
abbrev dI (n : Int) : D := .v (.int .i64 n)
abbrev dB (n : Bool) : D := .v (.bool n)
abbrev hartD (h : HartM) : List D := [ints h.regs, dI h.pc, ints h.csr, dB h.halted, dB h.waiting, dB h.rung, dI h.done, ints h.inp, ints h.out]
abbrev hartLV (h : HartM) : LV := .agg [.d (ints h.regs), di h.pc, .d (ints h.csr), dv (.bool h.halted), dv (.bool h.waiting), dv (.bool h.rung), di h.done, .d (ints h.inp), .d (ints h.out)]
abbrev hartR (h : HartM) : RV1 := .agg [oInts h.regs, .v (.int .i64 h.pc), oInts h.csr, .v (.bool h.halted), .v (.bool h.waiting), .v (.bool h.rung), .v (.int .i64 h.done), oInts h.inp, oInts h.out]

structure HartM.small (h : HartM) : Prop where
  regs : h.regs.length * 8 ≤ 140737488355328
  csr : h.csr.length * 8 ≤ 140737488355328
  inp : h.inp.length * 8 ≤ 140737488355328
  out : h.out.length * 8 ≤ 140737488355328

theorem HartM.small.lens {h : HartM} (hs : h.small) : h.regs.length ≤ 9223372036854775807 ∧ h.csr.length ≤ 9223372036854775807 ∧ h.inp.length ≤ 9223372036854775807 ∧ h.out.length ≤ 9223372036854775807 := by
  obtain ⟨h1, h2, h3, h4⟩ := hs
  omega

def hFault (h : HartM) : Int :=
  bif ((h.regs.length : Int) != 16) || (((h.csr.length : Int) != 11) || (h.regs.getD 0 0 != 0)) then 1 else
  bif !(h.regs.all isW) || (!(isW h.pc) || (!(h.csr.all isW) || (!(h.inp.all isW) || !(h.out.all isW)))) then 3 else
  bif decide ((h.inp.length : Int) > 40) || decide ((h.out.length : Int) > 40) then 2 else
  bif !(inR h.done 0 1000000000) then 3 else
  bif decide (h.csr.getD 0 0 > 3) || (decide (h.csr.getD 7 0 > 7) || (decide (h.csr.getD 10 0 > 8) || ((h.csr.getD 6 0 != 0) || (h.csr.getD 8 0 != 0)))) then 1 else 0

def hSz (m : HartM) (q : Int) : Int :=
  let q1 := q - m.regs.length
  let q2 := q1 - m.csr.length
  let q3 := q2 - m.inp.length
  let q4 := q3 - m.out.length
  if q1 < 0 ∨ q2 < 0 ∨ q3 < 0 ∨ q4 < 0 then -1 else q4
theorem c_laws_szInt64Sn (l : List Int) (q : Int) (hq : -9223372036854775808 ≤ q - l.length) (h : q - l.length < 0) : FnOK Try.prog 75 [.d (ints l), di q] (ri (-1)) := by
  have := c_laws_szInt64S l q hq (by omega)
  rwa [if_pos h] at this
theorem c_laws_szInt64Sp (l : List Int) (q : Int) (hq : q - l.length < 9223372036854775808) (h : ¬ q - l.length < 0) : FnOK Try.prog 75 [.d (ints l), di q] (ri (q - l.length)) := by
  have := c_laws_szInt64S l q (by omega) hq
  rwa [if_neg h] at this
end Go.Proofs.Ytojaakpnpdnbhaa.L

/- What the functions that ask a machine compute: contracts. -/
set_option linter.unusedVariables false
set_option linter.unusedSimpArgs false
set_option maxRecDepth 100000
namespace Go.Proofs.Ytojaakpnpdnbhaa.L
open Go.RowKit
abbrev irR (p : Int × Int) : RV1 := .agg [.v (.int .i64 p.1), .v (.int .i64 p.2)]
abbrev irLV (p : Int × Int) : LV := .agg [di p.1, di p.2]

theorem hFault_zero {m : HartM} (h : hFault m = 0) : m.regs.length = 16 ∧ m.csr.length = 11 ∧ m.inp.length ≤ 40 ∧ m.out.length ≤ 40 := by
  unfold hFault at h
  cases h1 : (((m.regs.length : Int) != 16) || (((m.csr.length : Int) != 11) || (m.regs.getD 0 0 != 0))) with
  | true => rw [h1] at h; simp at h
  | false =>
    rw [h1, cond_false] at h
    cases h0 : !m.regs.all isW || (!isW m.pc || (!m.csr.all isW || (!m.inp.all isW || !m.out.all isW))) with
    | true => rw [h0] at h; simp at h
    | false =>
    rw [h0, cond_false] at h
    cases h2 : decide ((m.inp.length : Int) > 40) || decide ((m.out.length : Int) > 40) with
    | true => rw [h2] at h; simp at h
    | false =>
      simp at h1 h2
      omega
theorem fault_ne {m : HartM} (h : (hFault m != 0) = false) : hFault m = 0 := by simpa using h

def pend (m : HartM) : Int := (if m.csr.getD 9 0 ≠ 0 ∧ m.done ≥ m.csr.getD 9 0 then 1 else 0) + (if m.rung = true then 2 else 0) + (if 0 < m.inp.length then 4 else 0)
def pendingOf (m : HartM) : Int × Int := if hFault m = 0 then (0, pend m) else (hFault m, 0)
def csrOf (m : HartM) (k : Int) : Int := if k = 6 then pend m else if k = 8 then m.done else m.csr.getD k.toNat 0
def getCsr (m : HartM) (k : Int) : Int × Int := if hFault m = 0 then (if inR k 0 10 = true then (0, csrOf m k) else (3, 0)) else (hFault m, 0)
theorem inR_iff {n a b : Int} : inR n a b = true ↔ a ≤ n ∧ n ≤ b := by simp [inR]
end Go.Proofs.Ytojaakpnpdnbhaa.L

/- What the functions compute that mark what a result owns, and look whether it is held: contracts. -/
set_option linter.unusedVariables false
set_option linter.unusedSimpArgs false
set_option maxRecDepth 100000
namespace Go.Proofs.Ytojaakpnpdnbhaa.L
open Go.RowKit
/-- the numbers from k on -/
def markL (k : Int) (n : Nat) : List Int := (List.range n).map fun (i : Nat) => k + (i : Int)
theorem markL_len (k : Int) (n : Nat) : (markL k n).length = n := by simp [markL]
theorem markL_get (k : Int) (n i : Nat) (h : i < n) : (markL k n).getD i 0 = k + i := by simp [markL, List.getD, h]
abbrev rowE (l : List Int) : Ent := .row 2 1 l.length (intsF l)

theorem c_laws_markInt64S (l : List Int) (k : Int) (hl : l.length ≤ 1099511627776) (hk : 0 ≤ k) (hk2 : k ≤ 1099511627776) :
    MutOK Try.prog 29 [.row 0, di k] 1 [(0, rowE l)] (di (k + l.length)) 1 [(0, .row 2 1 l.length (intsF (markL k l.length)))] := by
  refine mut_fn_of lv29 Try.func29 rfl rfl (by kernel_rfl) rfl [] ?_
  refine ⟨{ i : Nat // i ≤ l.length }, fun i => ⟨frL [(0, .row 0), (1, di (k + (i.1 : Int))), (5, di i.1)], hpL [(0, .row 2 1 l.length fun j => if j < i.1 then [.v (.int .i64 (k + (j : Int)))] else intsF l j)], 1, 1⟩, fun i => l.length - i.1, ⟨0, by omega⟩,
    le_of [] rfl rfl rfl rfl (tellHp_row rfl rfl rfl (fun i hi => rfl) tellHp_nil) (tellFr_row rfl rfl (tellFr_v rfl (congrArg (Value.int .i64) (?_ : k = k + ((0 : Nat) : Int))) (tellFr_v rfl rfl trivial))), ?_⟩
  · omega
  rintro ⟨i, hi⟩
  refine bsplit_intro (fun h => ?_) (fun h => ?_)
  · have h : i < l.length := by simp at h; exact h
    refine ask_intro ⟨by omega, by simp; omega⟩ ?_
    refine ask_intro (by show i < l.length; exact h) ?_
    refine ⟨⟨i + 1, by omega⟩, le_of [] rfl rfl rfl rfl (tellHp_row rfl rfl rfl (fun j hj => ?_) tellHp_nil) (tellFr_row rfl rfl (tellFr_v rfl (congrArg (Value.int .i64) (?_ : IntKind.i64.wrap (k + (i : Int) + 1) = k + ((i + 1 : Nat) : Int))) (tellFr_v rfl (congrArg (Value.int .i64) (?_ : IntKind.i64.wrap ((i : Int) + 1) = ((i + 1 : Nat) : Int))) trivial))), ?_⟩
    · show (if j = i then splice (if j < i then [.v (.int .i64 (k + (j : Int)))] else intsF l j) 0 [.v (.int .i64 (k + (i : Int)))] else if j < i then [.v (.int .i64 (k + (j : Int)))] else intsF l j) = if j < i + 1 then [.v (.int .i64 (k + (j : Int)))] else intsF l j
      by_cases h1 : j = i
      · subst h1
        rw [if_pos rfl, if_neg (by omega), if_pos (by omega)]
        rfl
      · rw [if_neg h1]
        by_cases h2 : j < i
        · rw [if_pos h2, if_pos (by omega)]
        · rw [if_neg h2, if_neg (by omega)]
    · rw [wrap_i64 _ (by omega) (by omega)]; omega
    · exact wrap_i64 (i + 1) (by omega) (by omega)
    · show l.length - (i + 1) < l.length - i
      omega
  · simp at h
    have e : i = l.length := by omega
    subst e
    refine chk_intro (by kernel_rfl) ⟨tellV_v rfl rfl, tellHp_row rfl rfl rfl (fun j hj => ?_) tellHp_nil⟩
    show (if j < l.length then [.v (.int .i64 (k + (j : Int)))] else intsF l j) = intsF (markL k l.length) j
    rw [if_pos hj]
    show _ = [D.v (.int .i64 ((markL k l.length).getD j 0))]
    rw [markL_get _ _ _ hj]

theorem c_laws_heldInt64S (k : Int) (n : Nat) (hn : n ≤ 1099511627776) (hk : 0 ≤ k) (hk2 : k ≤ 1099511627776) : FnOK Try.prog 89 [.d (.l n (intsF (markL k n))), di k] (ri (k + n)) := by
  refine fn_of lv89 Try.func89 rfl rfl (by kernel_rfl) rfl ?_
  refine ⟨{ i : Nat // i ≤ n }, fun i => ⟨frL [(0, .d (.l n (intsF (markL k n)))), (1, di (k + (i.1 : Int))), (5, di i.1)], hpL [], 0, 0⟩, fun i => n - i.1, ⟨0, by omega⟩,
    le_of [] rfl rfl rfl rfl tellHp_nil (tellFr_d rfl (DLe.refl _) (tellFr_v rfl (congrArg (Value.int .i64) (?_ : k = k + ((0 : Nat) : Int))) (tellFr_v rfl rfl trivial))), ?_⟩
  · omega
  rintro ⟨i, hi⟩
  refine bsplit_intro (fun h => ?_) (fun h => ?_)
  · have h : i < n := by simp at h; exact h
    refine ask_intro ⟨by omega, by simp; omega, rfl⟩ ?_
    refine bsplit_of_false ?_ ?_
    · show ((markL k n).getD i 0 != k + (i : Int)) = false
      rw [markL_get _ _ _ h]; simp
    refine ⟨⟨i + 1, by omega⟩, le_of [] rfl rfl rfl rfl tellHp_nil (tellFr_d rfl (DLe.refl _) (tellFr_v rfl (congrArg (Value.int .i64) (?_ : IntKind.i64.wrap (k + (i : Int) + 1) = k + ((i + 1 : Nat) : Int))) (tellFr_v rfl (congrArg (Value.int .i64) (?_ : IntKind.i64.wrap ((i : Int) + 1) = ((i + 1 : Nat) : Int))) trivial))), ?_⟩
    · rw [wrap_i64 _ (by omega) (by omega)]; omega
    · exact wrap_i64 (i + 1) (by omega) (by omega)
    · show n - (i + 1) < n - i
      omega
  · simp at h
    refine ⟨⟨congrArg (Value.int .i64) (?_ : k + (i : Int) = k + (n : Int)), trivial⟩, rfl⟩
    omega

abbrev hartK (m : HartM) (a b c d : Nat) : List LV := [.row a, di m.pc, .row b, dv (.bool m.halted), dv (.bool m.waiting), dv (.bool m.rung), di m.done, .row c, .row d]
abbrev rowM (l : List Int) (k : Int) : Ent := .row 2 1 l.length (intsF (markL k l.length))
abbrev datM (l : List Int) (k : Int) : LV := .d (.l l.length (intsF (markL k l.length)))
structure HartM.few (m : HartM) : Prop where
  regs : m.regs.length ≤ 1048576
  csr : m.csr.length ≤ 1048576
  inp : m.inp.length ≤ 1048576
  out : m.out.length ≤ 1048576
def hLen (m : HartM) : Int := m.regs.length + m.csr.length + m.inp.length + m.out.length
abbrev hK1 (m : HartM) (k : Int) : Int := k + m.regs.length
abbrev hK2 (m : HartM) (k : Int) : Int := hK1 m k + m.csr.length
abbrev hK3 (m : HartM) (k : Int) : Int := hK2 m k + m.inp.length
abbrev hK4 (m : HartM) (k : Int) : Int := hK3 m k + m.out.length
abbrev hMarks (m : HartM) (k : Int) : List (Nat × Ent) := [(0, rowM m.regs k), (1, rowM m.csr (hK1 m k)), (2, rowM m.inp (hK2 m k)), (3, rowM m.out (hK3 m k))]
abbrev hRows (m : HartM) : List (Nat × Ent) := [(0, rowE m.regs), (1, rowE m.csr), (2, rowE m.inp), (3, rowE m.out)]

theorem hK_le (m : HartM) (k : Int) (hf : m.few) (hk : 0 ≤ k) (hk2 : k ≤ 1048576) : (0 ≤ hK1 m k ∧ hK1 m k ≤ 1099511627776) ∧ (0 ≤ hK2 m k ∧ hK2 m k ≤ 1099511627776) ∧ (0 ≤ hK3 m k ∧ hK3 m k ≤ 1099511627776) ∧ (0 ≤ hK4 m k ∧ hK4 m k ≤ 1099511627776) := by
  obtain ⟨b1, b2, b3, b4⟩ := hf
  unfold hK4 hK3 hK2 hK1
  omega
abbrev hrLV (p : Int × HartM) : LV := .agg [di p.1, .d (ints p.2.regs), di p.2.pc, .d (ints p.2.csr), dv (.bool p.2.halted), dv (.bool p.2.waiting), dv (.bool p.2.rung), di p.2.done, .d (ints p.2.inp), .d (ints p.2.out)]
abbrev hrR (p : Int × HartM) : RV1 := .agg [.v (.int .i64 p.1), oInts p.2.regs, .v (.int .i64 p.2.pc), oInts p.2.csr, .v (.bool p.2.halted), .v (.bool p.2.waiting), .v (.bool p.2.rung), .v (.int .i64 p.2.done), oInts p.2.inp, oInts p.2.out]

end Go.Proofs.Ytojaakpnpdnbhaa.L

/- What the functions compute that make a new machine: contracts. -/
set_option linter.unusedVariables false
set_option linter.unusedSimpArgs false
set_option maxRecDepth 100000
namespace Go.Proofs.Ytojaakpnpdnbhaa.L
open Go.RowKit
def hartZ : HartM := ⟨[], 0, [], false, false, false, 0, [], []⟩
def newHart (l : List Int) : Int × HartM :=
  bif decide ((l.length : Int) > 40) then (2, hartZ) else bif !(l.all isW) then (3, hartZ) else (0, { hartZ with regs := List.replicate 16 0, csr := List.replicate 11 0, inp := l })
theorem rep_get (n i : Nat) : intsF (List.replicate n 0) i = [.v (.int .i64 0)] := by
  show [D.v (.int .i64 ((List.replicate n (0 : Int)).getD i 0))] = _
  have : (List.replicate n (0 : Int)).getD i 0 = 0 := by
    simp only [List.getD, List.getElem?_replicate]
    split <;> rfl
  rw [this]
end Go.Proofs.Ytojaakpnpdnbhaa.L

/- What the functions compute that copy and ring a machine: contracts. -/
set_option linter.unusedVariables false
set_option linter.unusedSimpArgs false
set_option maxRecDepth 100000
namespace Go.Proofs.Ytojaakpnpdnbhaa.L
open Go.RowKit
def ringHart (m : HartM) : Int × HartM := if hFault m = 0 then (0, { m with rung := true }) else (hFault m, hartZ)
end Go.Proofs.Ytojaakpnpdnbhaa.L

/- What the functions that look at pages and memories compute: contracts. -/
set_option linter.unusedVariables false
set_option linter.unusedSimpArgs false
set_option maxRecDepth 100000
namespace Go.Proofs.Ytojaakpnpdnbhaa.L
open Go.RowKit
structure PageM where
  to : Int
  kinds : Int
  deriving DecidableEq
abbrev pageD (p : PageM) : List D := [.v (.int .i64 p.to), .v (.int .i64 p.kinds)]
abbrev pagesF (l : List PageM) (i : Nat) : List D := pageD (l.getD i ⟨0, 0⟩)
abbrev pages (l : List PageM) : D := .l l.length (pagesF l)
def firstNZ : List Int → Int
  | [] => 0
  | x :: xs => if x = 0 then firstNZ xs else x
def pageBad (top : Int) (p : PageM) : Int := bif !inR p.to (-1) (top - 1) || !inR p.kinds 0 7 then 3 else bif (p.to == -1) && (p.kinds != 0) then 1 else 0
def pagesFault (l : List PageM) (top : Int) : Int := bif !inR top 1 24 then 3 else bif (l.length : Int) != 8 then 1 else firstNZ (l.map (pageBad top))
theorem map_drop {α : Type} (d : α) (f : α → Int) (l : List α) (i : Nat) (h : i < l.length) : (l.drop i).map f = f (l.getD i d) :: (l.drop (i + 1)).map f := by
  rw [List.drop_eq_getElem_cons h, List.map_cons]
  simp [List.getD, List.getElem?_eq_getElem h]
theorem c_impl_firstOf (l : List Int) (hl : l.length ≤ 1048576) : FnOK Try.prog 123 [.d (ints l)] (ri (firstNZ l)) := by
  refine fn_of lv123 Try.func123 rfl rfl (by kernel_rfl) rfl ?_
  refine ⟨{ i : Nat // i ≤ l.length ∧ firstNZ (l.drop i) = firstNZ l }, fun i => ⟨frL [(5, .d (ints l)), (6, di l.length), (7, di i.1)], hpL [], 0, 0⟩, fun i => l.length - i.1, ⟨0, by simp⟩, le_of [] rfl rfl rfl rfl trivial (tellFr_d rfl (DLe.refl _) (tellFr_v rfl rfl (tellFr_v rfl rfl trivial))), ?_⟩
  rintro ⟨i, hi, hall⟩
  refine bsplit_intro (fun h => ?_) (fun h => ?_)
  · have h : i < l.length := by simp at h; exact h
    have hd : firstNZ (l.drop i) = if l.getD i 0 = 0 then firstNZ (l.drop (i + 1)) else l.getD i 0 := by rw [drop_cons l i h]; rfl
    refine ask_intro ⟨by omega, by simp; omega, rfl⟩ ?_
    refine bsplit_intro (fun h2 => ?_) (fun h2 => ?_)
    · have h2 : ¬ l.getD i 0 = 0 := by simpa using h2
      refine ⟨⟨congrArg (Value.int .i64) ?_, trivial⟩, rfl⟩
      show l.getD i 0 = _
      rw [← hall, hd, if_neg h2]
    · have h2 : l.getD i 0 = 0 := by simpa using h2
      refine ⟨⟨i + 1, by omega, by rw [← hall, hd, if_pos h2]⟩, le_of [] rfl rfl rfl rfl trivial (tellFr_d rfl (DLe.refl _) (tellFr_v rfl rfl (tellFr_v rfl (congrArg (Value.int .i64) (?_ : IntKind.i64.wrap ((i : Int) + 1) = ((i + 1 : Nat) : Int))) trivial))), by show l.length - (i + 1) < l.length - i; omega⟩
      exact wrap_i64 (i + 1) (by omega) (by omega)
  · refine ⟨⟨congrArg (Value.int .i64) ?_, trivial⟩, rfl⟩
    simp at h
    rw [← hall, List.drop_eq_nil_of_le h]; rfl
theorem c_spec_PagesFault (l : List PageM) (top : Int) (hl : l.length ≤ 1048576) : FnOK Try.prog 56 [.d (pages l), di top] (ri (pagesFault l top)) := by
  generalize hr : pagesFault l top = r
  unfold pagesFault at hr
  refine fn_of lv56 Try.func56 rfl rfl (by kernel_rfl) rfl ?_
  refine .inl ⟨_, _, rfl, c_spec_l1In top 1 24, rfl, ?_⟩
  refine bsplit_intro (fun h => ?_) (fun h => ?_)
  · rw [h] at hr
    exact ⟨⟨congrArg (Value.int .i64) hr, trivial⟩, rfl⟩
  have ht := inR_iff.1 (show inR top 1 24 = true by simpa using h)
  rw [h] at hr
  have hw : IntKind.i64.wrap (top - 1) = top - 1 := wrap_i64 _ (by omega) (by omega)
  refine bsplit_intro (fun h1 => ?_) (fun h1 => ?_)
  · rw [h1] at hr
    exact ⟨⟨congrArg (Value.int .i64) hr, trivial⟩, rfl⟩
  rw [h1] at hr
  simp only [cond_false] at hr
  refine ⟨{ i : Nat // i ≤ l.length ∧ firstNZ ((l.drop i).map (pageBad top)) = r }, fun i => ⟨frL [(0, .d (pages l)), (1, di top), (5, di i.1)], hpL [], 0, 0⟩, fun i => l.length - i.1, ⟨0, by omega, by simpa using hr⟩, le_of [] rfl rfl rfl rfl trivial (tellFr_d rfl (DLe.refl _) (tellFr_v rfl rfl (tellFr_v rfl rfl trivial))), ?_⟩
  rintro ⟨i, hi, hall⟩
  refine bsplit_intro (fun h => ?_) (fun h => ?_)
  · have h : i < l.length := by simp at h; exact h
    rw [map_drop ⟨0, 0⟩ _ _ _ h] at hall
    have hwi : IntKind.i64.wrap ((i : Int) + 1) = ((i + 1 : Nat) : Int) := wrap_i64 (i + 1) (by omega) (by omega)
    obtain ⟨b, hb⟩ : ∃ b, b = pageBad top (l.getD i ⟨0, 0⟩) := ⟨_, rfl⟩
    rw [← hb] at hall
    unfold pageBad at hb
    refine ask_intro ⟨by omega, by simp; omega, rfl⟩ ?_
    refine .inl ⟨_, _, rfl, c_spec_l1In _ _ _, rfl, ?_⟩
    repeat' (first | refine bsplit_true ?_ | refine bsplit_false ?_)
    have e1 : inR (l.getD i ⟨0, 0⟩).to (-1) (IntKind.i64.wrap (top - 1)) = inR (l.getD i ⟨0, 0⟩).to (-1) (top - 1) := by rw [hw]
    have stop : ∀ v : Int, b = v → v ≠ 0 → v = r := fun v e n => by rw [← hall, e]; simp [firstNZ, n]
    have go : b = 0 → firstNZ ((l.drop (i + 1)).map (pageBad top)) = r := fun e => by rw [← hall, e]; simp [firstNZ]
    refine bsplit_intro (fun h2 => ?_) (fun h2 => ?_)
    · have h2 : (!inR (l.getD i ⟨0, 0⟩).to (-1) (top - 1)) = true := by rw [← e1]; exact h2
      repeat' (first | refine bsplit_true ?_ | refine bsplit_false ?_)
      exact ⟨⟨congrArg (Value.int .i64) (stop 3 (by rw [hb, h2]; rfl) (by decide)), trivial⟩, rfl⟩
    have h2 : (!inR (l.getD i ⟨0, 0⟩).to (-1) (top - 1)) = false := by rw [← e1]; exact h2
    repeat' (first | refine bsplit_true ?_ | refine bsplit_false ?_)
    refine ask_intro ⟨by omega, by simp; omega, rfl⟩ ?_
    repeat' (first | refine bsplit_true ?_ | refine bsplit_false ?_)
    refine .inl ⟨_, _, rfl, c_spec_l1In _ _ _, rfl, ?_⟩
    repeat' (first | refine bsplit_true ?_ | refine bsplit_false ?_)
    refine bsplit_intro (fun h3 => ?_) (fun h3 => ?_)
    · have h3 : (!inR (l.getD i ⟨0, 0⟩).kinds 0 7) = true := h3
      exact ⟨⟨congrArg (Value.int .i64) (stop 3 (by rw [hb, h2, h3]; rfl) (by decide)), trivial⟩, rfl⟩
    have h3 : (!inR (l.getD i ⟨0, 0⟩).kinds 0 7) = false := h3
    have r2 := inR_iff.1 (show inR (l.getD i ⟨0, 0⟩).to (-1) (top - 1) = true by simpa using h2)
    refine ask_intro ⟨by omega, by simp; omega, rfl⟩ ?_
    refine bsplit_intro (fun h4 => ?_) (fun h4 => ?_)
    · have h4 : decide ((l.getD i ⟨0, 0⟩).to < 0) = true := h4
      have q : ((l.getD i ⟨0, 0⟩).to == -1) = true := by
        have : (l.getD i ⟨0, 0⟩).to < 0 := of_decide_eq_true h4
        exact beq_iff_eq.2 (by omega)
      repeat' (first | refine bsplit_true ?_ | refine bsplit_false ?_)
      refine ask_intro ⟨by omega, by simp; omega, rfl⟩ ?_
      repeat' (first | refine bsplit_true ?_ | refine bsplit_false ?_)
      refine bsplit_intro (fun h5 => ?_) (fun h5 => ?_)
      · have h5 : ((l.getD i ⟨0, 0⟩).kinds != 0) = true := h5
        exact ⟨⟨congrArg (Value.int .i64) (stop 1 (by rw [hb, h2, h3, q, h5]; rfl) (by decide)), trivial⟩, rfl⟩
      · have h5 : ((l.getD i ⟨0, 0⟩).kinds != 0) = false := h5
        exact ⟨⟨i + 1, by omega, go (by rw [hb, h2, h3, q, h5]; rfl)⟩, le_of [] rfl rfl rfl rfl trivial (tellFr_d rfl (DLe.refl _) (tellFr_v rfl rfl (tellFr_v rfl (congrArg (Value.int .i64) hwi) trivial))), by show l.length - (i + 1) < l.length - i; omega⟩
    · have h4 : decide ((l.getD i ⟨0, 0⟩).to < 0) = false := h4
      have q : ((l.getD i ⟨0, 0⟩).to == -1) = false := by
        have : ¬ (l.getD i ⟨0, 0⟩).to < 0 := of_decide_eq_false h4
        exact beq_eq_false_iff_ne.2 (by omega)
      repeat' (first | refine bsplit_true ?_ | refine bsplit_false ?_)
      exact ⟨⟨i + 1, by omega, go (by rw [hb, h2, h3, q]; rfl)⟩, le_of [] rfl rfl rfl rfl trivial (tellFr_d rfl (DLe.refl _) (tellFr_v rfl rfl (tellFr_v rfl (congrArg (Value.int .i64) hwi) trivial))), by show l.length - (i + 1) < l.length - i; omega⟩
  · refine ⟨⟨congrArg (Value.int .i64) ?_, trivial⟩, rfl⟩
    simp at h
    rw [← hall, List.drop_eq_nil_of_le h]; rfl
theorem c_impl_PagesFault (l : List PageM) (top : Int) (hl : l.length ≤ 1048576) : FnOK Try.prog 101 [.d (pages l), di top] (ri (pagesFault l top)) := by
  generalize hr : pagesFault l top = r
  unfold pagesFault at hr
  refine fn_of lv101 Try.func101 rfl rfl (by kernel_rfl) rfl ?_
  refine .inl ⟨_, _, rfl, c_impl_within top 1 24, rfl, ?_⟩
  refine bsplit_intro (fun h => ?_) (fun h => ?_)
  · rw [h] at hr
    exact ⟨⟨congrArg (Value.int .i64) hr, trivial⟩, rfl⟩
  have ht := inR_iff.1 (show inR top 1 24 = true by simpa using h)
  rw [h] at hr
  have hw : IntKind.i64.wrap (top - 1) = top - 1 := wrap_i64 _ (by omega) (by omega)
  refine bsplit_intro (fun h1 => ?_) (fun h1 => ?_)
  · rw [h1] at hr
    exact ⟨⟨congrArg (Value.int .i64) hr, trivial⟩, rfl⟩
  rw [h1] at hr
  simp only [cond_false] at hr
  refine ⟨{ i : Nat // i ≤ l.length ∧ firstNZ ((l.drop i).map (pageBad top)) = r }, fun i => ⟨frL [(1, di top), (15, .d (pages l)), (16, di l.length), (17, di i.1)], hpL [], 0, 0⟩, fun i => l.length - i.1, ⟨0, by omega, by simpa using hr⟩, le_of [] rfl rfl rfl rfl trivial (tellFr_v rfl rfl (tellFr_d rfl (DLe.refl _) (tellFr_v rfl rfl (tellFr_v rfl rfl trivial)))), ?_⟩
  rintro ⟨i, hi, hall⟩
  refine bsplit_intro (fun h => ?_) (fun h => ?_)
  · have h : i < l.length := by simp at h; exact h
    rw [map_drop ⟨0, 0⟩ _ _ _ h] at hall
    have hwi : IntKind.i64.wrap ((i : Int) + 1) = ((i + 1 : Nat) : Int) := wrap_i64 (i + 1) (by omega) (by omega)
    obtain ⟨b, hb⟩ : ∃ b, b = pageBad top (l.getD i ⟨0, 0⟩) := ⟨_, rfl⟩
    rw [← hb] at hall
    unfold pageBad at hb
    refine ask_intro ⟨by omega, by simp; omega, rfl⟩ ?_
    refine .inl ⟨_, _, rfl, c_impl_within _ _ _, rfl, ?_⟩
    repeat' (first | refine bsplit_true ?_ | refine bsplit_false ?_)
    have e1 : inR (l.getD i ⟨0, 0⟩).to (-1) (IntKind.i64.wrap (top - 1)) = inR (l.getD i ⟨0, 0⟩).to (-1) (top - 1) := by rw [hw]
    have stop : ∀ v : Int, b = v → v ≠ 0 → v = r := fun v e n => by rw [← hall, e]; simp [firstNZ, n]
    have go : b = 0 → firstNZ ((l.drop (i + 1)).map (pageBad top)) = r := fun e => by rw [← hall, e]; simp [firstNZ]
    refine bsplit_intro (fun h2 => ?_) (fun h2 => ?_)
    · have h2 : (!inR (l.getD i ⟨0, 0⟩).to (-1) (top - 1)) = true := by rw [← e1]; exact h2
      repeat' (first | refine bsplit_true ?_ | refine bsplit_false ?_)
      exact ⟨⟨congrArg (Value.int .i64) (stop 3 (by rw [hb, h2]; rfl) (by decide)), trivial⟩, rfl⟩
    have h2 : (!inR (l.getD i ⟨0, 0⟩).to (-1) (top - 1)) = false := by rw [← e1]; exact h2
    repeat' (first | refine bsplit_true ?_ | refine bsplit_false ?_)
    refine .inl ⟨_, _, rfl, c_impl_within _ _ _, rfl, ?_⟩
    repeat' (first | refine bsplit_true ?_ | refine bsplit_false ?_)
    refine bsplit_intro (fun h3 => ?_) (fun h3 => ?_)
    · have h3 : (!inR (l.getD i ⟨0, 0⟩).kinds 0 7) = true := h3
      exact ⟨⟨congrArg (Value.int .i64) (stop 3 (by rw [hb, h2, h3]; rfl) (by decide)), trivial⟩, rfl⟩
    have h3 : (!inR (l.getD i ⟨0, 0⟩).kinds 0 7) = false := h3
    refine bsplit_intro (fun h4 => ?_) (fun h4 => ?_)
    · have h4 : ((l.getD i ⟨0, 0⟩).to == -1) = true := h4
      repeat' (first | refine bsplit_true ?_ | refine bsplit_false ?_)
      refine bsplit_intro (fun h5 => ?_) (fun h5 => ?_)
      · have h5 : ((l.getD i ⟨0, 0⟩).kinds != 0) = true := h5
        exact ⟨⟨congrArg (Value.int .i64) (stop 1 (by rw [hb, h2, h3, h4, h5]; rfl) (by decide)), trivial⟩, rfl⟩
      · have h5 : ((l.getD i ⟨0, 0⟩).kinds != 0) = false := h5
        exact ⟨⟨i + 1, by omega, go (by rw [hb, h2, h3, h4, h5]; rfl)⟩, le_of [] rfl rfl rfl rfl trivial (tellFr_v rfl rfl (tellFr_d rfl (DLe.refl _) (tellFr_v rfl rfl (tellFr_v rfl (congrArg (Value.int .i64) hwi) trivial)))), by show l.length - (i + 1) < l.length - i; omega⟩
    · have h4 : ((l.getD i ⟨0, 0⟩).to == -1) = false := h4
      repeat' (first | refine bsplit_true ?_ | refine bsplit_false ?_)
      exact ⟨⟨i + 1, by omega, go (by rw [hb, h2, h3, h4]; rfl)⟩, le_of [] rfl rfl rfl rfl trivial (tellFr_v rfl rfl (tellFr_d rfl (DLe.refl _) (tellFr_v rfl rfl (tellFr_v rfl (congrArg (Value.int .i64) hwi) trivial)))), by show l.length - (i + 1) < l.length - i; omega⟩
  · refine ⟨⟨congrArg (Value.int .i64) ?_, trivial⟩, rfl⟩
    simp at h
    rw [← hall, List.drop_eq_nil_of_le h]; rfl
def memFault (m : List Int) : Int := bif ((m.length : Int) == 0) || (decide ((m.length : Int) > 192) || (Int.tmod m.length 8 != 0)) then 1 else bif !m.all isW then 3 else 0
theorem c_impl_MemoryFault (l : List Int) (hl : l.length ≤ 1048576) : FnOK Try.prog 52 [.d (ints l)] (ri (memFault l)) := by
  generalize hr : memFault l = r
  unfold memFault at hr
  refine fn_of lv52 Try.func52 rfl rfl (by kernel_rfl) rfl ?_
  refine bsplit_intro (fun h => ?_) (fun h => ?_)
  · repeat' (first | refine bsplit_true ?_ | refine bsplit_false ?_)
    rw [h] at hr
    exact ⟨⟨congrArg (Value.int .i64) hr, trivial⟩, rfl⟩
  repeat' (first | refine bsplit_true ?_ | refine bsplit_false ?_)
  refine bsplit_intro (fun h1 => ?_) (fun h1 => ?_)
  · repeat' (first | refine bsplit_true ?_ | refine bsplit_false ?_)
    rw [h, h1] at hr
    exact ⟨⟨congrArg (Value.int .i64) hr, trivial⟩, rfl⟩
  repeat' (first | refine bsplit_true ?_ | refine bsplit_false ?_)
  refine ask_intro (by decide) ?_
  repeat' (first | refine bsplit_true ?_ | refine bsplit_false ?_)
  refine bsplit_intro (fun h2 => ?_) (fun h2 => ?_)
  · repeat' (first | refine bsplit_true ?_ | refine bsplit_false ?_)
    rw [h, h1, h2] at hr
    exact ⟨⟨congrArg (Value.int .i64) hr, trivial⟩, rfl⟩
  repeat' (first | refine bsplit_true ?_ | refine bsplit_false ?_)
  rw [h, h1, h2] at hr
  refine .inl ⟨_, _, rfl, c_impl_areWords l (by omega), rfl, ?_⟩
  refine bsplit_intro (fun h3 => ?_) (fun h3 => ?_)
  · rw [h3] at hr
    exact ⟨⟨congrArg (Value.int .i64) hr, trivial⟩, rfl⟩
  · rw [h3] at hr
    exact ⟨⟨congrArg (Value.int .i64) hr, trivial⟩, rfl⟩
theorem c_spec_MemoryFault (l : List Int) (hl : l.length ≤ 1048576) : FnOK Try.prog 157 [.d (ints l)] (ri (memFault l)) := by
  generalize hr : memFault l = r
  unfold memFault at hr
  have bad : (((l.length : Int) == 0) || (decide ((l.length : Int) > 192) || (Int.tmod l.length 8 != 0))) = true → 1 = r := fun e => by rw [← hr, e]; rfl
  have tm : Int.tmod (l.length : Int) 8 = ((l.length % 8 : Nat) : Int) := rfl
  refine fn_of lv157 Try.func157 rfl rfl (by kernel_rfl) rfl ?_
  refine ask_intro (by decide) ?_
  refine bsplit_intro (fun h => ?_) (fun h => ?_)
  · repeat' (first | refine bsplit_true ?_ | refine bsplit_false ?_)
    exact ⟨⟨congrArg (Value.int .i64) (bad (by rw [h]; simp)), trivial⟩, rfl⟩
  repeat' (first | refine bsplit_true ?_ | refine bsplit_false ?_)
  have h' : l.length % 8 = 0 := by rw [tm] at h; simp at h; omega
  refine bsplit_intro (fun h1 => ?_) (fun h1 => ?_)
  · repeat' (first | refine bsplit_true ?_ | refine bsplit_false ?_)
    have h0 : l.length = 0 := by simp at h1; omega
    exact ⟨⟨congrArg (Value.int .i64) (bad (by simp [h0])), trivial⟩, rfl⟩
  repeat' (first | refine bsplit_true ?_ | refine bsplit_false ?_)
  refine bsplit_intro (fun h2 => ?_) (fun h2 => ?_)
  · exact ⟨⟨congrArg (Value.int .i64) (bad (by rw [h2]; simp)), trivial⟩, rfl⟩
  have hz : ((l.length : Int) == 0) = false := beq_eq_false_iff_ne.2 (by have : ¬ (l.length : Int) < 8 := of_decide_eq_false h1; omega)
  rw [hz, h2, h] at hr
  have hr : (bif !l.all isW then (3 : Int) else 0) = r := hr
  refine ⟨{ i : Nat // i ≤ l.length ∧ (l.drop i).all isW = l.all isW }, fun i => ⟨frL [(0, .d (ints l)), (3, di i.1)], hpL [], 0, 0⟩, fun i => l.length - i.1, ⟨0, by simp⟩, le_of [] rfl rfl rfl rfl trivial (tellFr_d rfl (DLe.refl _) (tellFr_v rfl rfl trivial)), ?_⟩
  rintro ⟨i, hi, hall⟩
  refine bsplit_intro (fun h3 => ?_) (fun h3 => ?_)
  · have h3 : i < l.length := by simp at h3; exact h3
    have hwi : IntKind.i64.wrap ((i : Int) + 1) = ((i + 1 : Nat) : Int) := wrap_i64 (i + 1) (by omega) (by omega)
    rw [drop_all l isW i h3] at hall
    refine ask_intro ⟨by omega, by simp; omega, rfl⟩ ?_
    refine .inl ⟨_, _, rfl, c_spec_l1In _ _ _, rfl, ?_⟩
    refine bsplit_intro (fun h4 => ?_) (fun h4 => ?_)
    · have h4 : isW (l.getD i 0) = false := by simpa [isW] using h4
      rw [h4] at hall
      rw [← hall] at hr
      exact ⟨⟨congrArg (Value.int .i64) hr, trivial⟩, rfl⟩
    · have h4 : isW (l.getD i 0) = true := by simpa [isW] using h4
      rw [h4, Bool.true_and] at hall
      exact ⟨⟨i + 1, by omega, hall⟩, le_of [] rfl rfl rfl rfl trivial (tellFr_d rfl (DLe.refl _) (tellFr_v rfl (congrArg (Value.int .i64) hwi) trivial)), by show l.length - (i + 1) < l.length - i; omega⟩
  · simp at h3
    rw [List.drop_eq_nil_of_le h3] at hall
    rw [← hall] at hr
    exact ⟨⟨congrArg (Value.int .i64) hr, trivial⟩, rfl⟩
end Go.Proofs.Ytojaakpnpdnbhaa.L

/- How a machine, a word, a row of words that a law is handed is read: as data, of a size that a process can hold. -/
set_option linter.unusedVariables false
set_option linter.unusedSimpArgs false
set_option maxRecDepth 100000
namespace Go.Proofs.Ytojaakpnpdnbhaa.L
open Go.RowKit Go.ChangeShapes Go.WideShapes Go.ChangeAt

theorem own : ownKnob Try.prog.godebug = none := by kernel_rfl
theorem laidOut : laidOutB Try.prog = true := by kernel_rfl
theorem reach_eq : reachBytes = 140737488351232 := by decide
abbrev ok64 (n : Int) : Prop := (Lit.int .i64 n).wf = true
theorem ok64_le {n : Int} (h : ok64 n) : -9223372036854775808 ≤ n ∧ n ≤ 9223372036854775807 := by
  have h' : IntKind.i64.min ≤ n ∧ n ≤ 9223372036854775807 := by simpa [ok64, Lit.wf] using h
  have e : IntKind.i64.min = -9223372036854775808 := by decide
  rw [e] at h'
  exact h'
abbrev okInts (l : List Int) : Prop := l.length * 8 ≤ reachBytes ∧ ∀ x ∈ l, ok64 x

theorem reads_int64 : ReadsT Try.prog 2 1 Int (fun n => [.v (.int .i64 n)]) ok64 := ReadsT.int Try.underlying2 (by kernel_rfl)
theorem reads_bool : ReadsT Try.prog 4 1 Bool (fun n => [.v (.bool n)]) (fun _ => True) := ReadsT.bool Try.underlying4 (by kernel_rfl)
theorem reads_ints : ReadsT Try.prog 30 1 (List Int) (fun l => [ints l]) okInts := ReadsT.slice reads_int64 Try.underlying30 (by kernel_rfl) (by decide) 0 (by kernel_rfl)
structure HartM.ok (h : HartM) : Prop where
  small : h.small
  pc : ok64 h.pc
  done : ok64 h.done
  regs : okInts h.regs
  csr : okInts h.csr
  inp : okInts h.inp
  out : okInts h.out
end Go.Proofs.Ytojaakpnpdnbhaa.L

/- What the functions compute that turn a machine that is pointed at: contracts. -/
set_option linter.unusedVariables false
set_option linter.unusedSimpArgs false
set_option maxRecDepth 100000
namespace Go.Proofs.Ytojaakpnpdnbhaa.L
open Go.RowKit
theorem set_row (l : List Int) (i : Nat) (v : Int) (h : i < l.length) (j : Nat) : (if j = i then splice (intsF l j) 0 [D.v (.int .i64 v)] else intsF l j) = intsF (l.set i v) j := by
  by_cases e : j = i
  · subst e
    rw [if_pos rfl]
    show [D.v (.int .i64 v)] = [D.v (.int .i64 ((l.set j v).getD j 0))]
    simp [List.getD, h]
  · rw [if_neg e]
    show [D.v (.int .i64 (l.getD j 0))] = [D.v (.int .i64 ((l.set i v).getD j 0))]
    simp [List.getD, List.getElem?_set_ne (Ne.symm e)]
def backM (m : HartM) : HartM := { m with pc := m.csr.getD 2 0, csr := m.csr.set 0 (IntKind.i64.wrap (2 + IntKind.i64.wrap (Int.tdiv (m.csr.getD 0 0) 2))) }
end Go.Proofs.Ytojaakpnpdnbhaa.L

/- What the functions compute that send a machine back from a trap: contracts. -/
set_option linter.unusedVariables false
set_option linter.unusedSimpArgs false
set_option maxRecDepth 100000
namespace Go.Proofs.Ytojaakpnpdnbhaa.L
open Go.RowKit
def backHart (m : HartM) : Int × HartM := if hFault m = 0 then (0, backM m) else (hFault m, hartZ)
end Go.Proofs.Ytojaakpnpdnbhaa.L

/- What the functions compute that turn a machine that is pointed at: contracts. -/
set_option linter.unusedVariables false
set_option linter.unusedSimpArgs false
set_option maxRecDepth 100000
namespace Go.Proofs.Ytojaakpnpdnbhaa.L
open Go.RowKit
/-- a store into a row of whole numbers, at one place -/
theorem set_at {l : List Int} {i j : Nat} {v : Int} {x : List D} (h : x = intsF l j) (hi : i < l.length) : (if j = i then splice x 0 [D.v (.int .i64 v)] else x) = intsF (l.set i v) j := by
  rw [h]; exact set_row l i v hi j
def trapM (m : HartM) (c t : Int) : HartM := { m with pc := m.csr.getD 1 0, csr := (((m.csr.set 2 m.pc).set 3 c).set 4 t).set 0 (IntKind.i64.wrap (Int.tmod (m.csr.getD 0 0) 2 * 2)), waiting := false }
def trapHart (m : HartM) (c t : Int) : Int × HartM := if hFault m = 0 then (bif !inR c 0 31 || !isW t then (3, hartZ) else (0, trapM m c t)) else (hFault m, hartZ)
theorem upto_ints (a b : List Int) (i : Nat) : upto a.length (intsF a) (intsF b) i = intsF (a ++ b) i := by
  unfold upto
  show _ = [D.v (.int .i64 ((a ++ b).getD i 0))]
  split
  · rename_i h; show [D.v (.int .i64 (a.getD i 0))] = _; simp [List.getD, List.getElem?_append, h]
  · rename_i h; show [D.v (.int .i64 (b.getD (i - a.length) 0))] = _; simp [List.getD, List.getElem?_append, h]
def feedHart (m : HartM) (l : List Int) : Int × HartM :=
  if hFault m = 0 then (bif !l.all isW then (3, hartZ) else bif decide ((m.inp.length : Int) + l.length > 40) then (2, hartZ) else (0, { m with inp := m.inp ++ l })) else (hFault m, hartZ)
end Go.Proofs.Ytojaakpnpdnbhaa.L

/- What the functions compute that set a number of a machine: contracts. -/
set_option linter.unusedVariables false
set_option linter.unusedSimpArgs false
set_option maxRecDepth 100000
namespace Go.Proofs.Ytojaakpnpdnbhaa.L
open Go.RowKit
def wrapW (n : Int) : Int := n % 4294967296
theorem wrapW_le (n : Int) : 0 ≤ wrapW n ∧ wrapW n ≤ 4294967295 := by unfold wrapW; omega
theorem and_mask (a : Int) : IntKind.i64.wrap (BitVec.ofInt IntKind.i64.bits a &&& BitVec.ofInt IntKind.i64.bits 4294967295).toNat = wrapW a := by
  have e : (BitVec.ofInt IntKind.i64.bits a &&& BitVec.ofInt IntKind.i64.bits 4294967295).toNat = (a % 18446744073709551616).toNat % 4294967296 := by
    rw [BitVec.toNat_and, BitVec.toNat_ofInt, BitVec.toNat_ofInt]
    show (a % 18446744073709551616).toNat &&& (2 ^ 32 - 1) = _
    rw [Nat.and_two_pow_sub_one_eq_mod]
  rw [e]
  unfold wrapW
  have : (((a % 18446744073709551616).toNat % 4294967296 : Nat) : Int) = a % 4294967296 := by omega
  rw [this]
  exact wrap_i64 _ (by omega) (by omega)
theorem wrap_u32 (a : Int) : IntKind.u32.wrap a = a % 4294967296 := by
  simp [IntKind.wrap, IntKind.bits, IntKind.signed]
theorem c_spec_WrapWord (n : Int) : FnOK Try.prog 145 [di n] (ri (wrapW n)) := by
  refine fn_of lv145 Try.func145 rfl rfl (by kernel_rfl) rfl ?_
  refine ⟨⟨congrArg (Value.int .i64) ?_, trivial⟩, rfl⟩
  first
    | exact and_mask n
    | (show IntKind.i64.wrap (IntKind.u32.wrap n) = _
       rw [wrap_u32]
       exact wrap_i64 _ (by omega) (by omega))
theorem c_impl_WrapWord (n : Int) : FnOK Try.prog 50 [di n] (ri (wrapW n)) := by
  refine fn_of lv50 Try.func50 rfl rfl (by kernel_rfl) rfl ?_
  refine ⟨⟨congrArg (Value.int .i64) ?_, trivial⟩, rfl⟩
  first
    | exact and_mask n
    | (show IntKind.i64.wrap (IntKind.u32.wrap n) = _
       rw [wrap_u32]
       exact wrap_i64 _ (by omega) (by omega))
def setCsrL (m : HartM) (k v : Int) : HartM := { m with csr := m.csr.set k.toNat v }
def setM (m : HartM) (k w0 : Int) : HartM :=
  if k = 0 then setCsrL m k (Int.tmod (wrapW w0) 4) else if k = 7 then setCsrL m k (Int.tmod (wrapW w0) 8) else if k = 10 then setCsrL m k (if wrapW w0 ≤ 8 then wrapW w0 else 0)
  else if k = 6 then { m with rung := m.rung && decide (Int.tmod (wrapW w0) 4 < 2) } else if k = 8 then m else setCsrL m k (wrapW w0)
def setCsr (m : HartM) (k w : Int) : Int × HartM := if hFault m = 0 then (bif !inR k 0 10 then (3, hartZ) else (0, setM m k w)) else (hFault m, hartZ)
end Go.Proofs.Ytojaakpnpdnbhaa.L

/- What the functions compute that draw numbers out of a code's bytes: contracts. -/
set_option linter.unusedVariables false
set_option linter.unusedSimpArgs false
set_option maxRecDepth 100000
namespace Go.Proofs.Ytojaakpnpdnbhaa.L
open Go.RowKit
abbrev bytesD (c : List Int) : D := .l c.length fun i => [.v (.int .u8 (c.getD i 0))]
abbrev srcBox (c : List Int) (p : Int) : Ent := .box 196 [.d (bytesD c), di p]
structure okCode (c : List Int) : Prop where
  len : c.length ≤ 1048576
  byte : ∀ x ∈ c, 0 ≤ x ∧ x ≤ 255
theorem okCode.at {c : List Int} (h : okCode c) (i : Nat) : 0 ≤ c.getD i 0 ∧ c.getD i 0 ≤ 255 := by
  rcases Nat.lt_or_ge i c.length with hi | hi
  · have : c.getD i 0 = c[i] := by simp [List.getD, List.getElem?_eq_getElem hi]
    rw [this]; exact h.byte _ (List.getElem_mem hi)
  · simp [List.getD, List.getElem?_eq_none hi]
def nxRaw (c : List Int) (p n : Int) : Int :=
  if (c.length : Int) = 0 then p * 7 else
  if n > 200 then (c.getD (Int.tmod p c.length).toNat 0 + Int.tdiv p c.length * 37) * 251 + c.getD (Int.tmod (p + 1) c.length).toNat 0 * 13 + p
  else c.getD (Int.tmod p c.length).toNat 0 + Int.tdiv p c.length * 37
def nx (c : List Int) (p n : Int) : Int := if n < 1 then 0 else Int.tmod (nxRaw c p n) n
theorem raw1 {b q : Int} (h1 : 0 ≤ b) (h2 : b ≤ 255) (h3 : 0 ≤ q) (h4 : q ≤ 1099511627776) : IntKind.i64.wrap (IntKind.i64.wrap b + IntKind.i64.wrap (IntKind.i64.wrap q * 37)) = b + q * 37 := by
  simp only [IntKind.wrap_i64]; omega
theorem tdiv_le {a b : Int} (h1 : 0 ≤ a) (h2 : 0 < b) : 0 ≤ Int.tdiv a b ∧ Int.tdiv a b ≤ a := ⟨Int.tdiv_nonneg h1 (by omega), Int.tdiv_le_self b h1⟩
theorem tmod_in {a b : Int} (h1 : 0 ≤ a) (h2 : 0 < b) : 0 ≤ Int.tmod a b ∧ Int.tmod a b < b := ⟨Int.tmod_nonneg b h1, Int.tmod_lt_of_pos a h2⟩
theorem nxRaw_le {c : List Int} (hc : okCode c) {p : Int} (h1 : 0 ≤ p) (n : Int) : 0 ≤ nxRaw c p n := by
  have a := hc.at (Int.tmod p c.length).toNat
  have b := hc.at (Int.tmod (p + 1) c.length).toNat
  have d : 0 ≤ Int.tdiv p c.length := Int.tdiv_nonneg h1 (Int.natCast_nonneg _)
  unfold nxRaw
  split
  · omega
  · split <;> omega
theorem nx_in {c : List Int} (hc : okCode c) {p : Int} (h1 : 0 ≤ p) {n : Int} (hn : 1 ≤ n) : 0 ≤ nx c p n ∧ nx c p n < n := by
  unfold nx
  rw [if_neg (by omega)]
  exact tmod_in (nxRaw_le hc h1 n) (by omega)
theorem c_spec_l1Next (c : List Int) (hc : okCode c) (p n : Int) (hp : 0 ≤ p) (hp2 : p ≤ 549755813888) : MutOK Try.prog 110 [.ptr 0 0, di n] 1 [(0, srcBox c p)] (di (nx c p n)) 1 [(0, srcBox c (p + 1))] := by
  refine mut_fn_of lv110 Try.func110 rfl rfl (by kernel_rfl) rfl [] ?_
  have hw : IntKind.i64.wrap (p + 1) = p + 1 := wrap_i64 _ (by omega) (by omega)
  have hw2 : IntKind.i64.wrap (IntKind.i64.wrap (p + 1) - 1) = p := by rw [hw]; exact (wrap_i64 _ (by omega) (by omega)).trans (by omega)
  have a1 := hc.at (Int.tmod p c.length).toNat
  have a2 := hc.at (Int.tmod (p + 1) c.length).toNat
  have hlen := hc.len
  generalize hq : nx c p n = r
  unfold nx at hq
  (repeat' (first | refine bsplit_true ?_ | refine bsplit_false ?_ | refine ask_intro ?_ ?_ | refine chk_intro (by kernel_rfl) ?_)) <;> (try (first | omega | decide))
  refine bsplit_intro (fun h1 => ?_) (fun h1 => ?_)
  · rw [if_pos (by simpa using h1)] at hq
    subst hq
    (repeat' (first | refine bsplit_true ?_ | refine bsplit_false ?_ | refine ask_intro ?_ ?_ | refine chk_intro (by kernel_rfl) ?_)) <;> (try (first | omega | decide))
    exact ⟨tellV_v rfl rfl, tellHp_box rfl rfl ⟨DLe.refl _, congrArg (Value.int .i64) hw, trivial⟩ tellHp_nil⟩
  have hn : ¬ n < 1 := by simpa using h1
  rw [if_neg hn] at hq
  unfold nxRaw at hq
  refine bsplit_intro (fun h2 => ?_) (fun h2 => ?_)
  · rw [if_pos (by simpa using h2)] at hq
    subst hq
    refine ask_intro (show n ≠ 0 by omega) ?_
    refine chk_intro (by kernel_rfl) ⟨tellV_v rfl (congrArg (Value.int .i64) ?_), tellHp_box rfl rfl ⟨DLe.refl _, congrArg (Value.int .i64) hw, trivial⟩ tellHp_nil⟩
    rw [hw2, wrap_i64 (p * 7) (by omega) (by omega)]
  have hk : ¬ (c.length : Int) = 0 := by simpa using h2
  rw [if_neg hk] at hq
  have b1 := tmod_in hp (show 0 < (c.length : Int) by omega)
  have b2 := tmod_in (show 0 ≤ p + 1 by omega) (show 0 < (c.length : Int) by omega)
  have b3 := tdiv_le hp (show 0 < (c.length : Int) by omega)
  refine ask_intro (show (c.length : Int) ≠ 0 from hk) ?_
  refine ask_intro ⟨by show 0 ≤ Int.tmod (IntKind.i64.wrap (IntKind.i64.wrap (p + 1) - 1)) _; rw [hw2]; exact b1.1, by show Int.tmod (IntKind.i64.wrap (IntKind.i64.wrap (p + 1) - 1)) _ < _; rw [hw2]; exact b1.2, rfl⟩ ?_
  refine ask_intro (show (c.length : Int) ≠ 0 from hk) ?_
  (repeat' (first | refine bsplit_true ?_ | refine bsplit_false ?_ | refine ask_intro ?_ ?_ | refine chk_intro (by kernel_rfl) ?_)) <;> (try (first | omega | decide))
  refine bsplit_intro (fun h3 => ?_) (fun h3 => ?_)
  · rw [if_pos (by simpa using h3)] at hq
    refine ask_intro (show (c.length : Int) ≠ 0 from hk) ?_
    refine ask_intro ⟨by show 0 ≤ Int.tmod (IntKind.i64.wrap (IntKind.i64.wrap (IntKind.i64.wrap (p + 1) - 1) + 1)) _; rw [hw2, hw]; exact b2.1, by show Int.tmod (IntKind.i64.wrap (IntKind.i64.wrap (IntKind.i64.wrap (p + 1) - 1) + 1)) _ < _; rw [hw2, hw]; exact b2.2, rfl⟩ ?_
    (repeat' (first | refine bsplit_true ?_ | refine bsplit_false ?_ | refine ask_intro ?_ ?_ | refine chk_intro (by kernel_rfl) ?_)) <;> (try (first | omega | decide))
    refine ⟨tellV_v rfl (congrArg (Value.int .i64) ?_), tellHp_box rfl rfl ⟨DLe.refl _, congrArg (Value.int .i64) hw, trivial⟩ tellHp_nil⟩
    rw [← hq, hw2, hw]
    congr 1
    generalize c.getD (Int.tmod p c.length).toNat 0 = u1 at *
    generalize c.getD (Int.tmod (p + 1) c.length).toNat 0 = u2 at *
    generalize Int.tdiv p c.length = u3 at *
    simp only [IntKind.wrap_i64]
    omega
  rw [if_neg (by simpa using h3)] at hq
  refine ask_intro (show n ≠ 0 by omega) ?_
  refine chk_intro (by kernel_rfl) ⟨tellV_v rfl (congrArg (Value.int .i64) ?_), tellHp_box rfl rfl ⟨DLe.refl _, congrArg (Value.int .i64) hw, trivial⟩ tellHp_nil⟩
  rw [← hq, hw2]
  congr 1
  generalize c.getD (Int.tmod p c.length).toNat 0 = u1 at *
  generalize Int.tdiv p c.length = u3 at *
  simp only [IntKind.wrap_i64]
  omega
theorem c_spec_l1Source (c : List Int) : MutOK Try.prog 107 [.d (bytesD c)] 0 [] (.ptr 0 0) 1 [(0, srcBox c 0)] := by
  refine mut_fn_of lv107 Try.func107 rfl rfl (by kernel_rfl) rfl [(0, 4160)] ?_
  refine chk_intro (by kernel_rfl) ⟨⟨rfl, rfl⟩, tellHp_box rfl rfl ⟨DLe.refl _, rfl, trivial⟩ tellHp_nil⟩
theorem c_spec_l1Chance (c : List Int) (hc : okCode c) (p n : Int) (hp : 0 ≤ p) (hp2 : p ≤ 549755813888) : MutOK Try.prog 183 [.ptr 0 0, di n] 1 [(0, srcBox c p)] (dv (.bool (nx c p n == 0))) 1 [(0, srcBox c (p + 1))] := by
  refine mut_fn_of lv183 Try.func183 rfl rfl (by kernel_rfl) rfl [] ?_
  refine .inr ⟨rfl, use_mut ⟨_, _, _, _, _, _, rfl, rfl, c_spec_l1Next c hc p n hp hp2, rfl, ?_⟩⟩
  refine chk_intro (by kernel_rfl) ⟨tellV_v rfl rfl, tellHp_box rfl rfl ⟨DLe.refl _, rfl, trivial⟩ tellHp_nil⟩
/-- what is picked -/
def pk (c : List Int) (p : Int) (l : List Int) : Int := l.getD (nx c p l.length).toNat 0
theorem pk_mem {c : List Int} (hc : okCode c) {p : Int} (hp : 0 ≤ p) {l : List Int} (hl : l ≠ []) : pk c p l ∈ l := by
  have h1 : 1 ≤ (l.length : Int) := by cases l with | nil => exact absurd rfl hl | cons => simp; omega
  have h2 := nx_in hc hp h1
  have h3 : (nx c p l.length).toNat < l.length := by omega
  unfold pk
  simp [List.getD, List.getElem?_eq_getElem h3]
theorem c_spec_l1Pick0 (c : List Int) (hc : okCode c) (p : Int) (l : List Int) (hp : 0 ≤ p) (hp2 : p ≤ 549755813888) (hl : l ≠ []) : MutOK Try.prog 120 [.ptr 0 0, .row 1] 2 [(0, srcBox c p), (1, rowE l)] (di (pk c p l)) 2 [(0, srcBox c (p + 1)), (1, rowE l)] := by
  have h1 : 1 ≤ (l.length : Int) := by cases l with | nil => exact absurd rfl hl | cons => simp; omega
  have h2 := nx_in hc hp h1
  refine mut_fn_of lv120 Try.func120 rfl rfl (by kernel_rfl) rfl [] ?_
  refine .inr ⟨rfl, use_mut ⟨_, _, _, _, _, _, rfl, rfl, c_spec_l1Next c hc p l.length hp hp2, rfl, ?_⟩⟩
  refine ask_intro h2 ?_
  refine ask_intro (show (nx c p l.length).toNat < l.length by omega) ?_
  refine chk_intro (by kernel_rfl) ⟨tellV_v rfl rfl, tellHp_box rfl rfl ⟨DLe.refl _, rfl, trivial⟩ (tellHp_row rfl rfl rfl (fun j hj => rfl) tellHp_nil)⟩
/-- the elements of a literal -/
abbrev litD (l : List Int) (i : Nat) : List D := (l.map fun v => [D.v (.int .i64 v)]).getD i []
theorem litD_eq (l : List Int) (i : Nat) (h : i < l.length) : litD l i = intsF l i := by
  show _ = [D.v (.int .i64 (l.getD i 0))]
  simp [litD, List.getD, h]
theorem c_spec_l1Pick (c : List Int) (hc : okCode c) (p : Int) (l : List Int) (hp : 0 ≤ p) (hp2 : p ≤ 549755813888) (hl : l ≠ []) : MutOK Try.prog 120 [.ptr 0 0, .row 1] 2 [(0, srcBox c p), (1, .row 2 1 l.length (litD l))] (di (pk c p l)) 2 [(0, srcBox c (p + 1)), (1, rowE l)] :=
  (c_spec_l1Pick0 c hc p l hp hp2 hl).rows ⟨rfl, rfl, rfl, ⟨rfl, rfl, rfl, fun i hi => litD_eq l i hi⟩, trivial⟩
theorem pickE (c : List Int) (hc : okCode c) (p : Int) (l : List Int) (hp : 0 ≤ p) (hp2 : p ≤ 549755813888) (hl : l ≠ []) : ∃ v, v ∈ l ∧ MutOK Try.prog 120 [.ptr 0 0, .row 1] 2 [(0, srcBox c p), (1, .row 2 1 l.length (litD l))] (di v) 2 [(0, srcBox c (p + 1)), (1, rowE l)] :=
  ⟨pk c p l, pk_mem hc hp hl, c_spec_l1Pick c hc p l hp hp2 hl⟩
theorem nextE (c : List Int) (hc : okCode c) (p n : Int) (hp : 0 ≤ p) (hp2 : p ≤ 549755813888) (hn : 1 ≤ n) : ∃ v, 0 ≤ v ∧ v < n ∧ MutOK Try.prog 110 [.ptr 0 0, di n] 1 [(0, srcBox c p)] (di v) 1 [(0, srcBox c (p + 1))] :=
  ⟨nx c p n, (nx_in hc hp hn).1, (nx_in hc hp hn).2, c_spec_l1Next c hc p n hp hp2⟩
theorem chanceE (c : List Int) (hc : okCode c) (p n : Int) (hp : 0 ≤ p) (hp2 : p ≤ 549755813888) : ∃ v : Bool, MutOK Try.prog 183 [.ptr 0 0, di n] 1 [(0, srcBox c p)] (dv (.bool v)) 1 [(0, srcBox c (p + 1))] :=
  ⟨_, c_spec_l1Chance c hc p n hp hp2⟩
attribute [irreducible] nx pk
def wd (c : List Int) (p : Int) : Int := pk c (p + 1 + 1 + 1 + 1) [nx c p 90, nx c (p + 1) 9, IntKind.i64.wrap (4294967295 - nx c (p + 1 + 1) 9), 2147483648, 2147483647, 0, IntKind.i64.wrap (nx c (p + 1 + 1 + 1) 60000 * 70000)]
theorem c_spec_l1Word (c : List Int) (hc : okCode c) (p : Int) (hp : 0 ≤ p) (hp2 : p ≤ 274877906944) : MutOK Try.prog 176 [.ptr 0 0] 1 [(0, srcBox c p)] (di (wd c p)) 1 [(0, srcBox c (p + 5))] := by
  refine mut_fn_of lv176 Try.func176 rfl rfl (by kernel_rfl) rfl [] ?_
  refine .inr ⟨rfl, use_mut ⟨_, _, _, _, _, _, rfl, rfl, c_spec_l1Next c hc p 90 (by omega) (by omega), rfl, ?_⟩⟩
  refine .inr ⟨rfl, use_mut ⟨_, _, _, _, _, _, rfl, rfl, c_spec_l1Next c hc (p + 1) 9 (by omega) (by omega), rfl, ?_⟩⟩
  refine .inr ⟨rfl, use_mut ⟨_, _, _, _, _, _, rfl, rfl, c_spec_l1Next c hc (p + 1 + 1) 9 (by omega) (by omega), rfl, ?_⟩⟩
  refine .inr ⟨rfl, use_mut ⟨_, _, _, _, _, _, rfl, rfl, c_spec_l1Next c hc (p + 1 + 1 + 1) 60000 (by omega) (by omega), rfl, ?_⟩⟩
  refine .inr ⟨rfl, use_mut ⟨_, _, _, _, _, _, rfl, rfl, c_spec_l1Pick c hc (p + 1 + 1 + 1 + 1) [nx c p 90, nx c (p + 1) 9, IntKind.i64.wrap (4294967295 - nx c (p + 1 + 1) 9), 2147483648, 2147483647, 0, IntKind.i64.wrap (nx c (p + 1 + 1 + 1) 60000 * 70000)] (by omega) (by omega) (by simp), rfl, ?_⟩⟩
  refine chk_intro (by kernel_rfl) ⟨tellV_v rfl rfl, tellHp_box rfl rfl ⟨DLe.refl _, congrArg (Value.int .i64) (by omega), trivial⟩ tellHp_nil⟩
attribute [irreducible] wd
def wi (c : List Int) (p : Int) : Int := pk c (p + 5 + 5 + 5) [wd c p, wd c (p + 5), wd c (p + 5 + 5), -1, -9223372036854775808, 9223372036854775807, 4294967296, -5]
theorem c_spec_l1Wide (c : List Int) (hc : okCode c) (p : Int) (hp : 0 ≤ p) (hp2 : p ≤ 137438953472) : MutOK Try.prog 111 [.ptr 0 0] 1 [(0, srcBox c p)] (di (wi c p)) 1 [(0, srcBox c (p + 16))] := by
  refine mut_fn_of lv111 Try.func111 rfl rfl (by kernel_rfl) rfl [] ?_
  refine .inr ⟨rfl, use_mut ⟨_, _, _, _, _, _, rfl, rfl, c_spec_l1Word c hc p (by omega) (by omega), rfl, ?_⟩⟩
  refine .inr ⟨rfl, use_mut ⟨_, _, _, _, _, _, rfl, rfl, c_spec_l1Word c hc (p + 5) (by omega) (by omega), rfl, ?_⟩⟩
  refine .inr ⟨rfl, use_mut ⟨_, _, _, _, _, _, rfl, rfl, c_spec_l1Word c hc (p + 5 + 5) (by omega) (by omega), rfl, ?_⟩⟩
  refine .inr ⟨rfl, use_mut ⟨_, _, _, _, _, _, rfl, rfl, c_spec_l1Pick c hc (p + 5 + 5 + 5) [wd c p, wd c (p + 5), wd c (p + 5 + 5), -1, -9223372036854775808, 9223372036854775807, 4294967296, -5] (by omega) (by omega) (by simp), rfl, ?_⟩⟩
  refine chk_intro (by kernel_rfl) ⟨tellV_v rfl rfl, tellHp_box rfl rfl ⟨DLe.refl _, congrArg (Value.int .i64) (by omega), trivial⟩ tellHp_nil⟩
theorem wordE (c : List Int) (hc : okCode c) (p : Int) (hp : 0 ≤ p) (hp2 : p ≤ 274877906944) : ∃ v, MutOK Try.prog 176 [.ptr 0 0] 1 [(0, srcBox c p)] (di v) 1 [(0, srcBox c (p + 5))] := ⟨_, c_spec_l1Word c hc p hp hp2⟩
theorem wideE (c : List Int) (hc : okCode c) (p : Int) (hp : 0 ≤ p) (hp2 : p ≤ 137438953472) : ∃ v, MutOK Try.prog 111 [.ptr 0 0] 1 [(0, srcBox c p)] (di v) 1 [(0, srcBox c (p + 16))] := ⟨_, c_spec_l1Wide c hc p hp hp2⟩
attribute [irreducible] wi
end Go.Proofs.Ytojaakpnpdnbhaa.L

/- What the law functions compute on pages and lonely machines: contracts. -/
set_option linter.unusedVariables false
set_option linter.unusedSimpArgs false
set_option maxRecDepth 100000
namespace Go.Proofs.Ytojaakpnpdnbhaa.L
open Go.RowKit
abbrev pageLV (p : PageM) : LV := .agg [di p.to, di p.kinds]
abbrev oPages (l : List PageM) : RC := .own 133 2 l.length (pagesF l)
theorem c_laws_toPage (p : PageM) : FnOK Try.prog 138 [pageLV p] (.r (.agg [.v (.int .i64 p.to), .v (.int .i64 p.kinds)])) := by
  refine fn_of lv138 Try.func138 rfl rfl (by kernel_rfl) rfl ?_
  exact ⟨⟨rfl, rfl, trivial⟩, rfl⟩
theorem c_laws_toPageS (l : List PageM) (hl : l.length * 16 ≤ 140737488355328) : FnOK Try.prog 64 [.d (pages l)] (.r (.one (oPages l))) := by
  refine fn_of lv64 Try.func64 rfl rfl (by kernel_rfl) rfl ?_
  refine ask_intro ⟨rfl, by omega, by show (l.length : Int) * 16 ≤ 140737488355328; omega, by omega⟩ ?_
  refine ⟨{ i : Nat // i ≤ l.length }, fun i => ⟨frL [(0, .d (pages l)), (3, .row 96), (4, di i.1)], hpL [(96, .row 133 2 l.length fun j => if j < i.1 then pagesF l j else pageD ⟨0, 0⟩)], 97, 0⟩, fun i => l.length - i.1, ⟨0, by omega⟩,
    le_of [(96, 4160)] rfl rfl rfl rfl (tellHp_row rfl rfl rfl (fun i hi => rfl) tellHp_nil) (tellFr_d rfl (DLe.refl _) (tellFr_row rfl rfl (tellFr_v rfl rfl trivial))), ?_⟩
  rintro ⟨i, hi⟩
  refine bsplit_intro (fun h => ?_) (fun h => ?_)
  · have h : i < l.length := by simp at h; exact h
    refine ask_intro ⟨by omega, by simp; omega, rfl⟩ ?_
    refine .inl ⟨_, _, rfl, c_laws_toPage (l.getD i ⟨0, 0⟩), rfl, ?_⟩
    refine ask_intro ⟨by omega, by simp; omega⟩ ?_
    refine ask_intro (by show i < l.length; exact h) ?_
    refine ⟨⟨i + 1, by omega⟩, le_of [(96, 96)] rfl rfl rfl rfl (tellHp_row rfl rfl rfl (fun j hj => ?_) tellHp_nil) (tellFr_d rfl (DLe.refl _) (tellFr_row rfl rfl (tellFr_v rfl (congrArg (Value.int .i64) (?_ : IntKind.i64.wrap ((i : Int) + 1) = ((i + 1 : Nat) : Int))) trivial))), ?_⟩
    · show (if j = i then splice (if j < i then pagesF l j else pageD ⟨0, 0⟩) 0 (pageD (l.getD i ⟨0, 0⟩)) else if j < i then pagesF l j else pageD ⟨0, 0⟩) = if j < i + 1 then pagesF l j else pageD ⟨0, 0⟩
      by_cases h1 : j = i
      · subst h1
        rw [if_pos rfl, if_neg (by omega), if_pos (by omega)]
        rfl
      · rw [if_neg h1]
        by_cases h2 : j < i
        · rw [if_pos h2, if_pos (by omega)]
        · rw [if_neg h2, if_neg (by omega)]
    · exact wrap_i64 (i + 1) (by omega) (by omega)
    · show l.length - (i + 1) < l.length - i
      omega
  · simp at h
    refine ⟨⟨⟨rfl, rfl, rfl, fun j hj => ⟨?_, rfl⟩⟩, trivial⟩, rfl⟩
    show (if j < i then pagesF l j else _) = _
    rw [if_pos (by omega)]
theorem c_laws_szPageS (l : List PageM) (q : Int) (hq : -9223372036854775808 ≤ q - l.length) (hq2 : q - l.length < 9223372036854775808) : FnOK Try.prog 62 [.d (pages l), di q] (ri (if q - l.length < 0 then -1 else q - l.length)) := by
  refine fn_of lv62 Try.func62 rfl rfl rfl rfl ?_
  refine bsplit_intro (fun h => ?_) (fun h => ?_)
  · refine ⟨⟨congrArg (Value.int .i64) (?_ : (-1 : Int) = _), trivial⟩, rfl⟩
    rw [wrap_i64 _ hq hq2] at h
    simp only [decide_eq_true_eq] at h
    rw [if_pos h]
  · refine ⟨⟨congrArg (Value.int .i64) (?_ : IntKind.i64.wrap (q - l.length) = _), trivial⟩, rfl⟩
    rw [wrap_i64 _ hq hq2] at h ⊢
    simp only [decide_eq_false_iff_not] at h
    rw [if_neg h]
theorem c_laws_eqPage (p q : PageM) : FnOK Try.prog 140 [pageLV p, pageLV q] (rb (decide (p = q))) := by
  refine fn_of lv140 Try.func140 rfl rfl (by kernel_rfl) rfl ?_
  repeat' (first | refine bsplit_true ?_ | refine bsplit_false ?_ | refine bsplit_intro (fun h => ?_) (fun h => ?_))
  all_goals refine ⟨⟨congrArg Value.bool ?_, trivial⟩, rfl⟩
  all_goals (obtain ⟨a1, a2⟩ := p; obtain ⟨b1, b2⟩ := q; simp_all)
theorem drop_consG {α : Type} (d : α) (l : List α) (i : Nat) (h : i < l.length) : l.drop i = l.getD i d :: l.drop (i + 1) :=
  (List.drop_eq_getElem_cons h).trans (by rw [show l[i] = l.getD i d by simp [List.getD, List.getElem?_eq_getElem h]])
theorem c_laws_eqPageS (l m : List PageM) (hl : l.length ≤ 9223372036854775807) : FnOK Try.prog 67 [.d (pages l), .d (pages m)] (rb (decide (l = m))) := by
  refine fn_of lv67 Try.func67 rfl rfl (by kernel_rfl) rfl ?_
  refine bsplit_intro (fun h => ?_) (fun h => ?_)
  · refine ⟨⟨congrArg Value.bool (?_ : false = _), trivial⟩, rfl⟩
    simp at h
    symm
    rw [decide_eq_false_iff_not]
    rintro rfl
    exact h rfl
  have hlen : l.length = m.length := by simp at h; omega
  refine ⟨{ i : Nat // i ≤ l.length ∧ decide (l.drop i = m.drop i) = decide (l = m) }, fun i => ⟨frL [(0, .d (pages l)), (1, .d (pages m)), (5, di i.1)], hpL [], 0, 0⟩, fun i => l.length - i.1, ⟨0, by simp⟩,
    le_of [] rfl rfl rfl rfl trivial (tellFr_d rfl (DLe.refl _) (tellFr_d rfl (DLe.refl _) (tellFr_v rfl rfl trivial))), ?_⟩
  rintro ⟨i, hi, hall⟩
  refine bsplit_intro (fun h => ?_) (fun h => ?_)
  · have h : i < l.length := by simp at h; exact h
    rw [drop_consG ⟨0, 0⟩ l i h, drop_consG ⟨0, 0⟩ m i (by omega)] at hall
    refine ask_intro ⟨by omega, by simp; omega, rfl⟩ ?_
    refine ask_intro ⟨by omega, by simp; omega, rfl⟩ ?_
    refine .inl ⟨_, _, rfl, c_laws_eqPage (l.getD i ⟨0, 0⟩) (m.getD i ⟨0, 0⟩), rfl, ?_⟩
    refine chk_intro (by kernel_rfl) ?_
    refine bsplit_intro (fun h2 => ?_) (fun h2 => ?_)
    · refine ⟨⟨congrArg Value.bool (?_ : false = _), trivial⟩, rfl⟩
      have h2 : ¬ l.getD i ⟨0, 0⟩ = m.getD i ⟨0, 0⟩ := by simpa only [Bool.not_eq_true', decide_eq_false_iff_not] using h2
      rw [← hall]
      symm
      rw [decide_eq_false_iff_not]
      intro e
      exact h2 (List.cons.inj e).1
    · have h2 : l.getD i ⟨0, 0⟩ = m.getD i ⟨0, 0⟩ := by simpa only [Bool.not_eq_false', decide_eq_true_eq] using h2
      rw [h2] at hall
      refine ⟨⟨i + 1, by omega, by rw [← hall]; simp⟩, le_of [] rfl rfl rfl rfl trivial (tellFr_d rfl (DLe.refl _) (tellFr_d rfl (DLe.refl _) (tellFr_v rfl (congrArg (Value.int .i64) (?_ : IntKind.i64.wrap ((i : Int) + 1) = ((i + 1 : Nat) : Int))) trivial))), by show l.length - (i + 1) < l.length - i; omega⟩
      exact wrap_i64 (i + 1) (by omega) (by omega)
  · refine ⟨⟨congrArg Value.bool (?_ : true = _), trivial⟩, rfl⟩
    simp at h
    rw [← hall, List.drop_eq_nil_of_le h, List.drop_eq_nil_of_le (by omega)]; simp
end Go.Proofs.Ytojaakpnpdnbhaa.L

/- The law function over a machine that is rung answers true. -/
set_option linter.unusedVariables false
set_option linter.unusedSimpArgs false
set_option maxRecDepth 100000
namespace Go.Proofs.Ytojaakpnpdnbhaa.L
open Go.RowKit
theorem few_of_sz {m : HartM} (h : decide (hSz m 1048576 < 0) = false) : m.few := by
  simp only [decide_eq_false_iff_not] at h
  unfold hSz at h
  simp only at h
  split at h
  · omega
  · rename_i h2
    exact ⟨by omega, by omega, by omega, by omega⟩
theorem hartZ_few : hartZ.few ∧ hartZ.small := ⟨⟨by decide, by decide, by decide, by decide⟩, ⟨by decide, by decide, by decide, by decide⟩⟩
theorem ringHart_few (m : HartM) (hf : m.few) (hs : m.small) : (ringHart m).2.few ∧ (ringHart m).2.small := by
  unfold ringHart
  split
  · exact ⟨⟨hf.regs, hf.csr, hf.inp, hf.out⟩, ⟨hs.regs, hs.csr, hs.inp, hs.out⟩⟩
  · exact hartZ_few
end Go.Proofs.Ytojaakpnpdnbhaa.L

/- What the functions that look at a lonely machine compute: contracts. -/
set_option linter.unusedVariables false
set_option linter.unusedSimpArgs false
set_option maxRecDepth 100000
namespace Go.Proofs.Ytojaakpnpdnbhaa.L
open Go.RowKit
theorem LVLe.pre (xs ys : List D) : LVLe (.dptr (xs ++ ys)) (.dptr xs) := fun W F v hv => by
  cases hv with
  | dptr vs hs hI hc hr =>
    refine .dptr vs hs hI (fun j hj => hc j (by simp; omega)) (fun j hj => ?_)
    have := hr j (by simp; omega)
    have e : (xs ++ ys).getD j (.v undef) = xs.getD j (.v undef) := by simp [List.getD, List.getElem?_append, hj]
    rwa [e] at this
structure SoloM where
  hart : HartM
  pages : List PageM
  mem : List Int
  deriving DecidableEq
abbrev soloD (x : SoloM) : List D := [ints x.hart.regs, dI x.hart.pc, ints x.hart.csr, dB x.hart.halted, dB x.hart.waiting, dB x.hart.rung, dI x.hart.done, ints x.hart.inp, ints x.hart.out, Go.Proofs.Ytojaakpnpdnbhaa.L.pages x.pages, ints x.mem]
abbrev soloLV (x : SoloM) : LV := .agg [.d (ints x.hart.regs), di x.hart.pc, .d (ints x.hart.csr), dv (.bool x.hart.halted), dv (.bool x.hart.waiting), dv (.bool x.hart.rung), di x.hart.done, .d (ints x.hart.inp), .d (ints x.hart.out), .d (Go.Proofs.Ytojaakpnpdnbhaa.L.pages x.pages), .d (ints x.mem)]
abbrev soloR (x : SoloM) : RV1 := .agg [oInts x.hart.regs, .v (.int .i64 x.hart.pc), oInts x.hart.csr, .v (.bool x.hart.halted), .v (.bool x.hart.waiting), .v (.bool x.hart.rung), .v (.int .i64 x.hart.done), oInts x.hart.inp, oInts x.hart.out, oPages x.pages, oInts x.mem]
structure SoloM.small (x : SoloM) : Prop where
  hart : x.hart.small
  pages : x.pages.length * 16 ≤ 140737488355328
  mem : x.mem.length * 8 ≤ 140737488355328
def soloFault (x : SoloM) : Int := if hFault x.hart = 0 then (if pagesFault x.pages 8 = 0 then (bif (memFault x.mem != 0) || ((x.mem.length : Int) != 64) then 1 else 0) else pagesFault x.pages 8) else hFault x.hart
theorem hSz_le (m : HartM) (h : ¬ hSz m 1048576 < 0) : 0 ≤ hSz m 1048576 ∧ hSz m 1048576 ≤ 1048576 := by
  refine ⟨by omega, ?_⟩
  unfold hSz
  simp only
  split <;> omega
end Go.Proofs.Ytojaakpnpdnbhaa.L

/- The law function over what is wrong with a lonely machine answers true; how one is read. -/
set_option linter.unusedVariables false
set_option linter.unusedSimpArgs false
set_option maxRecDepth 100000
namespace Go.Proofs.Ytojaakpnpdnbhaa.L
open Go.RowKit Go.ChangeShapes Go.WideShapes Go.ChangeAt
theorem reads_page : ReadsT Try.prog 167 2 PageM pageD (fun p => ok64 p.to ∧ ok64 p.kinds) :=
  (ReadsT.struct (ok := _) Try.underlying167 (by kernel_rfl) (ReadsL.cons reads_int64 (.cons reads_int64 (.nil 2)))).map (fun m => ⟨m.1, m.2.1⟩) (fun m h => ⟨⟨h.1, h.2.1⟩, rfl⟩)
theorem reads_pages : ReadsT Try.prog 97 1 (List PageM) (fun l => [pages l]) (fun l => l.length * 16 ≤ reachBytes ∧ ∀ x ∈ l, ok64 x.to ∧ ok64 x.kinds) := ReadsT.slice reads_page Try.underlying97 (by kernel_rfl) (by decide) ⟨0, 0⟩ (by kernel_rfl)
structure SoloM.ok (x : SoloM) : Prop where
  hart : x.hart.ok
  pages : x.pages.length * 16 ≤ reachBytes ∧ ∀ p ∈ x.pages, ok64 p.to ∧ ok64 p.kinds
  mem : okInts x.mem
theorem SoloM.ok.small {x : SoloM} (h : x.ok) : x.small := by
  have e := reach_eq
  have a := h.pages.1
  have b := h.mem.1
  exact ⟨h.hart.small, by omega, by omega⟩
end Go.Proofs.Ytojaakpnpdnbhaa.L

/- What the functions compute that read and write a machine's device page: contracts. -/
set_option linter.unusedVariables false
set_option linter.unusedSimpArgs false
set_option maxRecDepth 100000
namespace Go.Proofs.Ytojaakpnpdnbhaa.L
open Go.RowKit
theorem drop_ints (l : List Int) (k i : Nat) : intsF l (k + i) = intsF (l.drop k) i := by
  show [D.v (.int .i64 (l.getD (k + i) 0))] = [D.v (.int .i64 ((l.drop k).getD i 0))]
  simp [List.getD, List.getElem?_drop]
def readV (m : HartM) (k : Int) : Int := if k = 1 then m.inp.getD 0 0 else if k = 2 then m.done else if k = 3 then m.csr.getD 9 0 else if k = 4 then pend m else if k = 6 then m.inp.length else 0
def readM (m : HartM) (k : Int) : HartM := if k = 1 then { m with inp := m.inp.drop 1 } else m
theorem readM_ne {m : HartM} {k : Int} (h : k ≠ 1) : readM m k = m := if_neg h
def writeV (k w : Int) : Int := if k = 5 then wrapW w else -1
def writeM (m : HartM) (k w : Int) : HartM := if k = 0 then (if m.out.length < 40 then { m with out := m.out ++ [wrapW w] } else m) else if k = 3 then setM m 9 w else if k = 4 then setM m 6 w else m
theorem wrapW_wrapW (w : Int) : wrapW (wrapW w) = wrapW w := by unfold wrapW; omega
theorem setM_wrapW (m : HartM) (k w : Int) : setM m k (wrapW w) = setM m k w := by unfold setM; rw [wrapW_wrapW]
theorem app_ints (l : List Int) (w : Int) (i : Nat) : upto l.length (intsF l) (fun i => ([[D.v (.int .i64 w)]] : List (List D)).getD i []) i = intsF (l ++ [w]) i ∨ l.length + 1 ≤ i := by
  rcases Nat.lt_or_ge i (l.length + 1) with h | h
  · refine .inl ?_
    unfold upto
    show _ = [D.v (.int .i64 ((l ++ [w]).getD i 0))]
    split
    · rename_i h; show [D.v (.int .i64 (l.getD i 0))] = _; simp [List.getD, List.getElem?_append, h]
    · have : i = l.length := by omega
      subst this
      simp [List.getD]
  · exact .inr h
theorem app_ints' (l : List Int) (w : Int) (i : Nat) (h : i < l.length + 1) : upto l.length (intsF l) (fun i => ([[D.v (.int .i64 w)]] : List (List D)).getD i []) i = intsF (l ++ [w]) i := (app_ints l w i).resolve_right (by omega)
theorem one_len (v : Int) (i : Nat) (hi : i < 1) : (([[D.v (.int .i64 v)]] : List (List D)).getD i []).length = 1 := by
  obtain rfl : i = 0 := by omega
  rfl
end Go.Proofs.Ytojaakpnpdnbhaa.L

/- What the functions compute that tell the words of a page: contracts. -/
set_option linter.unusedVariables false
set_option linter.unusedSimpArgs false
set_option maxRecDepth 100000
namespace Go.Proofs.Ytojaakpnpdnbhaa.L
open Go.RowKit
def pageW (m : List Int) (p : Int) : List Int := (m.drop (p * 8).toNat).take 8
theorem pageW_len (m : List Int) (p : Int) (hp : 0 ≤ p) (h : (p + 1) * 8 ≤ m.length) : (pageW m p).length = 8 := by
  unfold pageW
  rw [List.length_take, List.length_drop]
  omega
theorem pageW_D (m : List Int) (p : Int) (hp : 0 ≤ p) (h : (p + 1) * 8 ≤ m.length) : DLe (.l (((p + 1) * 8 - p * 8)).toNat (fun i => intsF m ((p * 8).toNat + i))) (ints (pageW m p)) := by
  refine DLe.l (by rw [pageW_len m p hp h]; omega) (fun i hi => ?_)
  show [D.v (.int .i64 (m.getD ((p * 8).toNat + i) 0))] = [D.v (.int .i64 ((pageW m p).getD i 0))]
  unfold pageW
  have hi8 : i < 8 := by omega
  simp [List.getD, List.getElem?_take, hi8, List.getElem?_drop]
theorem c_impl_pageOf (m : List Int) (p : Int) (hp : 0 ≤ p) (hp2 : p ≤ 1048576) (h : (p + 1) * 8 ≤ m.length) : FnOK Try.prog 159 [.d (ints m), di p] (.r (.one (oInts (pageW m p)))) := by
  have w1 : IntKind.i64.wrap (p * 8) = p * 8 := wrap_i64 _ (by omega) (by omega)
  have w2 : IntKind.i64.wrap (IntKind.i64.wrap (p + 1) * 8) = (p + 1) * 8 := by rw [wrap_i64 (p + 1) (by omega) (by omega)]; exact wrap_i64 _ (by omega) (by omega)
  refine fn_of lv159 Try.func159 rfl rfl (by kernel_rfl) rfl ?_
  refine ask_intro ⟨by show 0 ≤ IntKind.i64.wrap (p * 8); omega, by show IntKind.i64.wrap (p * 8) ≤ IntKind.i64.wrap (IntKind.i64.wrap (p + 1) * 8); omega, by show IntKind.i64.wrap (IntKind.i64.wrap (p + 1) * 8) ≤ m.length; omega, .inr (fun i hi => rfl)⟩ ?_
  have hD := pageW_D m p hp h
  rw [← w2, ← w1] at hD
  refine .inl ⟨_, _, rfl, (c_slices_Clone (pageW m p) (by rw [pageW_len m p hp h]; omega)).weak ⟨LVLe.d hD, trivial⟩, rfl, ?_⟩
  exact ⟨⟨⟨rfl, rfl, rfl, fun i hi => ⟨rfl, rfl⟩⟩, trivial⟩, rfl⟩
def wordsL (m : List Int) (ps : List Int) : List Int := ps.flatMap (pageW m)
theorem wordsL_len (m : List Int) : ∀ (ps : List Int), (∀ p ∈ ps, 0 ≤ p ∧ (p + 1) * 8 ≤ m.length) → (wordsL m ps).length = 8 * ps.length
  | [], _ => rfl
  | p :: ps, h => by
    have h1 := h p (by simp)
    have h2 := wordsL_len m ps (fun q hq => h q (by simp [hq]))
    unfold wordsL at h2 ⊢
    rw [List.flatMap_cons, List.length_append, pageW_len m p h1.1 h1.2, h2]
    simp; omega
theorem upto_app (a b : List Int) (g : Nat → List D) (hg : ∀ j, j < b.length → g j = intsF b j) (i : Nat) (h : i < a.length + b.length) : upto a.length (intsF a) g i = intsF (a ++ b) i := by
  rw [← upto_ints]
  unfold upto
  split
  · rfl
  · exact hg _ (by omega)
theorem c_spec_l7Words (m ps : List Int) (hm : m.length ≤ 1048576) (hn : ps.length ≤ 1048576) (h : ∀ p ∈ ps, 0 ≤ p ∧ (p + 1) * 8 ≤ m.length) : FnOK Try.prog 92 [.d (ints m), .d (ints ps)] (.r (.one (oInts (wordsL m ps)))) := by
  refine fn_of lv92 Try.func92 rfl rfl (by kernel_rfl) rfl ?_
  refine ⟨{ i : Nat // i ≤ ps.length }, fun i => ⟨frL [(0, .d (ints m)), (1, .d (ints ps)), (5, .row 96), (6, di i.1)], hpL [(96, rowE (wordsL m (ps.take i.1)))], 97, 0⟩, fun i => ps.length - i.1, ⟨0, by omega⟩,
    le_of [(96, 4096)] rfl rfl rfl rfl (tellHp_row rfl rfl (by simp [wordsL]) (fun j hj => absurd hj (by omega)) tellHp_nil) (tellFr_d rfl (DLe.refl _) (tellFr_d rfl (DLe.refl _) (tellFr_row rfl rfl (tellFr_v rfl rfl trivial)))), ?_⟩
  rintro ⟨i, hi⟩
  refine bsplit_intro (fun hb => ?_) (fun hb => ?_)
  · have hb : i < ps.length := by simp at hb; exact hb
    have hpm : ps.getD i 0 ∈ ps := by simp [List.getD, List.getElem?_eq_getElem hb]
    have et : ps.take (i + 1) = ps.take i ++ [ps.getD i 0] := by rw [List.take_add_one]; simp [List.getD, List.getElem?_eq_getElem hb]
    have hlt := wordsL_len m (ps.take i) (fun q hq => h q (List.mem_of_mem_take hq))
    have ew : wordsL m (ps.take (i + 1)) = wordsL m (ps.take i) ++ pageW m (ps.getD i 0) := by rw [et]; simp [wordsL]
    have hwi : IntKind.i64.wrap ((i : Int) + 1) = ((i + 1 : Nat) : Int) := wrap_i64 (i + 1) (by omega) (by omega)
    obtain ⟨hp, hp2⟩ := h _ hpm
    have hpl := pageW_len m _ hp hp2
    have hlt2 : (wordsL m (ps.take i)).length ≤ 8388608 := by rw [hlt, List.length_take]; omega
    have w1 : IntKind.i64.wrap (ps.getD i 0 * 8) = ps.getD i 0 * 8 := wrap_i64 _ (by omega) (by omega)
    have w2 : IntKind.i64.wrap (IntKind.i64.wrap (ps.getD i 0 + 1) * 8) = (ps.getD i 0 + 1) * 8 := by rw [wrap_i64 (ps.getD i 0 + 1) (by omega) (by omega)]; exact wrap_i64 _ (by omega) (by omega)
    refine ask_intro ⟨by omega, by simp; omega, rfl⟩ ?_
    refine ask_intro ⟨by omega, by simp; omega, rfl⟩ ?_
    refine ask_intro ⟨by show 0 ≤ IntKind.i64.wrap (ps.getD i 0 * 8); omega, by show IntKind.i64.wrap (ps.getD i 0 * 8) ≤ IntKind.i64.wrap (IntKind.i64.wrap (ps.getD i 0 + 1) * 8); omega, by show IntKind.i64.wrap (IntKind.i64.wrap (ps.getD i 0 + 1) * 8) ≤ m.length; omega, .inr (fun i hi => rfl)⟩ ?_
    refine ask_intro ⟨by show ((wordsL m (ps.take i)).length + (IntKind.i64.wrap (IntKind.i64.wrap (ps.getD i 0 + 1) * 8) - IntKind.i64.wrap (ps.getD i 0 * 8)).toNat) * 8 ≤ 140737488355328; omega, by show (wordsL m (ps.take i)).length + (IntKind.i64.wrap (IntKind.i64.wrap (ps.getD i 0 + 1) * 8) - IntKind.i64.wrap (ps.getD i 0 * 8)).toNat ≤ 9223372036854775807; omega, fun j hj => rfl⟩ ?_
    refine chk_intro (by kernel_rfl) ?_
    refine ⟨⟨i + 1, by omega⟩, le_of [(96, 4641)] rfl rfl rfl rfl (tellHp_row rfl rfl ?_ (fun j hj => ?_) tellHp_nil) (tellFr_d rfl (DLe.refl _) (tellFr_d rfl (DLe.refl _) (tellFr_row rfl rfl (tellFr_v rfl (congrArg (Value.int .i64) hwi) trivial)))), by show ps.length - (i + 1) < ps.length - i; omega⟩
    · show (wordsL m (ps.take i)).length + (IntKind.i64.wrap (IntKind.i64.wrap (ps.getD i 0 + 1) * 8) - IntKind.i64.wrap (ps.getD i 0 * 8)).toNat = (wordsL m (ps.take (i + 1))).length
      rw [ew, List.length_append, hpl]; omega
    · have hj : j < (wordsL m (ps.take i)).length + (IntKind.i64.wrap (IntKind.i64.wrap (ps.getD i 0 + 1) * 8) - IntKind.i64.wrap (ps.getD i 0 * 8)).toNat := hj
      show upto (wordsL m (ps.take i)).length (intsF (wordsL m (ps.take i))) (fun q => intsF m ((IntKind.i64.wrap (ps.getD i 0 * 8)).toNat + q)) j = intsF (wordsL m (ps.take (i + 1))) j
      rw [ew]
      refine upto_app _ _ _ (fun q hq => ?_) j (by rw [hpl]; omega)
      rw [w1]
      show [D.v (.int .i64 (m.getD ((ps.getD i 0 * 8).toNat + q) 0))] = [D.v (.int .i64 ((pageW m (ps.getD i 0)).getD q 0))]
      unfold pageW
      have hq8 : q < 8 := by omega
      simp [List.getD, List.getElem?_take, hq8, List.getElem?_drop]
  · simp at hb
    have e : i = ps.length := by omega
    subst e
    refine ⟨⟨⟨rfl, rfl, ?_, fun j hj => ⟨?_, rfl⟩⟩, trivial⟩, rfl⟩
    · show (wordsL m (ps.take ps.length)).length = _
      rw [List.take_length]
    · show intsF (wordsL m (ps.take ps.length)) j = _
      rw [List.take_length]
end Go.Proofs.Ytojaakpnpdnbhaa.L

/- What the functions compute that walk through pages: contracts. -/
set_option linter.unusedVariables false
set_option linter.unusedSimpArgs false
set_option maxRecDepth 100000
namespace Go.Proofs.Ytojaakpnpdnbhaa.L
open Go.RowKit
/-! ## the first place in a list for which something holds -/
def idxG {α : Type} (p : α → Bool) (l : List α) (i : Nat) : Int := bif (l.drop i).any p then (((l.drop i).findIdx p + i : Nat) : Int) else -1
theorem getD_at {α : Type} {l : List α} {i : Nat} (d : α) (h : i < l.length) : l.getD i d = l[i] := by simp [List.getD, List.getElem?_eq_getElem h]
theorem drop_anyG {α : Type} (d : α) (l : List α) (p : α → Bool) (i : Nat) (h : i < l.length) : (l.drop i).any p = (p (l.getD i d) || (l.drop (i + 1)).any p) := by
  rw [List.drop_eq_getElem_cons h, List.any_cons, getD_at d h]
theorem idxG_hit {α : Type} (d : α) {l : List α} {p : α → Bool} {i : Nat} (h : i < l.length) (hp : p (l.getD i d) = true) : idxG p l i = i := by
  unfold idxG
  rw [drop_anyG d l p i h, hp, List.drop_eq_getElem_cons h]
  rw [getD_at d h] at hp
  rw [List.findIdx_cons, hp]
  simp
theorem idxG_miss {α : Type} (d : α) {l : List α} {p : α → Bool} {i : Nat} (h : i < l.length) (hp : p (l.getD i d) = false) : idxG p l i = idxG p l (i + 1) := by
  unfold idxG
  rw [drop_anyG d l p i h, hp, Bool.false_or, List.drop_eq_getElem_cons h]
  rw [getD_at d h] at hp
  cases (List.drop (i + 1) l).any p with
  | false => rfl
  | true =>
    simp only [cond_true, List.findIdx_cons, hp, cond_false]
    omega
theorem idxG_end {α : Type} {l : List α} {p : α → Bool} {i : Nat} (h : l.length ≤ i) : idxG p l i = -1 := by
  unfold idxG
  rw [List.drop_eq_nil_of_le h]; rfl
theorem idxG_any {α : Type} (l : List α) (p : α → Bool) : decide (idxG p l 0 ≥ 0) = l.any p := by
  unfold idxG
  rw [List.drop_zero]
  cases l.any p <;> simp
/-! ## where a place leads -/
abbrev andI (a b : Int) : Int := IntKind.i64.wrap (BitVec.ofInt 64 a &&& BitVec.ofInt 64 b).toNat
def pageAt (l : List PageM) (at_ : Int) : PageM := l.getD (IntKind.i64.wrap (Int.tdiv at_ 8)).toNat ⟨0, 0⟩
/-- -1: nowhere -/
def walkP (l : List PageM) (at_ kind : Int) : Int :=
  bif !inR at_ 0 63 then -1 else bif decide ((pageAt l at_).to < 0) || (andI (pageAt l at_).kinds kind == 0) then -1 else IntKind.i64.wrap (IntKind.i64.wrap ((pageAt l at_).to * 8) + Int.tmod at_ 8)
theorem div8 {a : Int} (h : 0 ≤ a) (h2 : a ≤ 63) : IntKind.i64.wrap (Int.tdiv a 8) = Int.tdiv a 8 ∧ 0 ≤ Int.tdiv a 8 ∧ Int.tdiv a 8 ≤ 7 := by
  have h3 : Int.tdiv a 8 = a / 8 := Int.tdiv_eq_ediv_of_nonneg h
  rw [h3]
  exact ⟨wrap_i64 _ (by omega) (by omega), by omega, by omega⟩
theorem c_spec_l4Walk (l : List PageM) (hl : l.length = 8) (at_ kind : Int) : FnOK Try.prog 191 [.d (pages l), di at_, di kind] (ri (walkP l at_ kind)) := by
  generalize hv : walkP l at_ kind = v
  unfold walkP at hv
  refine fn_of lv191 Try.func191 rfl rfl (by kernel_rfl) rfl ?_
  refine .inl ⟨_, _, rfl, c_spec_l1In at_ 0 63, rfl, ?_⟩
  refine bsplit_intro (fun h => ?_) (fun h => ?_)
  · rw [h] at hv
    exact ⟨⟨congrArg (Value.int .i64) hv, trivial⟩, rfl⟩
  rw [h, cond_false] at hv
  have h2 := inR_iff.1 (by simpa using h : inR at_ 0 63 = true)
  obtain ⟨e1, e2, e3⟩ := div8 h2.1 h2.2
  refine ask_intro (by decide) ?_
  refine ask_intro ⟨by omega, by omega, rfl⟩ ?_
  refine bsplit_intro (fun h3 => ?_) (fun h3 => ?_)
  · repeat' (first | refine bsplit_true ?_ | refine bsplit_false ?_)
    rw [show decide ((pageAt l at_).to < 0) = true from h3] at hv
    exact ⟨⟨congrArg (Value.int .i64) hv, trivial⟩, rfl⟩
  rw [show decide ((pageAt l at_).to < 0) = false from h3, Bool.false_or] at hv
  repeat' (first | refine bsplit_true ?_ | refine bsplit_false ?_)
  refine bsplit_intro (fun h4 => ?_) (fun h4 => ?_)
  · rw [show (andI (pageAt l at_).kinds kind == 0) = true from h4] at hv
    exact ⟨⟨congrArg (Value.int .i64) hv, trivial⟩, rfl⟩
  rw [show (andI (pageAt l at_).kinds kind == 0) = false from h4, cond_false] at hv
  refine ask_intro (by decide) ?_
  exact ⟨⟨congrArg (Value.int .i64) hv, trivial⟩, rfl⟩
def kindC (k : Int) : Int := if k = 1 then 7 else if k = 2 then 8 else if k = 4 then 9 else 0
theorem c_impl_kindCode (k : Int) : FnOK Try.prog 112 [di k] (ri (kindC k)) := by
  generalize hv : kindC k = v
  unfold kindC at hv
  refine fn_of lv112 Try.func112 rfl rfl (by kernel_rfl) rfl ?_
  refine bsplit_intro (fun h => ?_) (fun h => ?_)
  · rw [if_pos (by simpa using h)] at hv
    exact ⟨⟨congrArg (Value.int .i64) hv, trivial⟩, rfl⟩
  rw [if_neg (by simpa using h)] at hv
  refine bsplit_intro (fun h => ?_) (fun h => ?_)
  · rw [if_pos (by simpa using h)] at hv
    exact ⟨⟨congrArg (Value.int .i64) hv, trivial⟩, rfl⟩
  rw [if_neg (by simpa using h)] at hv
  refine bsplit_intro (fun h => ?_) (fun h => ?_)
  · rw [if_pos (by simpa using h)] at hv
    exact ⟨⟨congrArg (Value.int .i64) hv, trivial⟩, rfl⟩
  rw [if_neg (by simpa using h)] at hv
  exact ⟨⟨congrArg (Value.int .i64) hv, trivial⟩, rfl⟩
theorem c_spec_l4Code (k : Int) (hk : k = 1 ∨ k = 2 ∨ k = 4) : FnOK Try.prog 190 [di k] (ri (kindC k)) := by
  generalize hv : kindC k = v
  unfold kindC at hv
  refine fn_of lv190 Try.func190 rfl rfl (by kernel_rfl) rfl ?_
  refine bsplit_intro (fun h => ?_) (fun h => ?_)
  · rw [if_pos (by simpa using h)] at hv
    exact ⟨⟨congrArg (Value.int .i64) hv, trivial⟩, rfl⟩
  rw [if_neg (by simpa using h)] at hv
  refine bsplit_intro (fun h2 => ?_) (fun h2 => ?_)
  · rw [if_pos (by simpa using h2)] at hv
    exact ⟨⟨congrArg (Value.int .i64) hv, trivial⟩, rfl⟩
  rw [if_neg (by simpa using h2), if_pos (by simp at h h2; omega)] at hv
  exact ⟨⟨congrArg (Value.int .i64) hv, trivial⟩, rfl⟩
def kindOk (k : Int) : Bool := (k == 1) || ((k == 2) || (k == 4))
theorem c_spec_l4Kind (k : Int) : FnOK Try.prog 189 [di k] (rb (kindOk k)) := by
  generalize hv : kindOk k = v
  unfold kindOk at hv
  refine fn_of lv189 Try.func189 rfl rfl (by kernel_rfl) rfl ?_
  refine bsplit_intro (fun h => ?_) (fun h => ?_)
  · repeat' (first | refine bsplit_true ?_ | refine bsplit_false ?_)
    rw [h] at hv
    exact ⟨⟨congrArg Value.bool hv, trivial⟩, rfl⟩
  rw [h, Bool.false_or] at hv
  repeat' (first | refine bsplit_true ?_ | refine bsplit_false ?_)
  refine bsplit_intro (fun h => ?_) (fun h => ?_)
  · repeat' (first | refine bsplit_true ?_ | refine bsplit_false ?_)
    rw [h] at hv
    exact ⟨⟨congrArg Value.bool hv, trivial⟩, rfl⟩
  rw [h, Bool.false_or] at hv
  repeat' (first | refine bsplit_true ?_ | refine bsplit_false ?_)
  exact ⟨⟨congrArg Value.bool hv, trivial⟩, rfl⟩
theorem kindC_ok (k : Int) : (kindC k == 0) = !kindOk k := by
  unfold kindC kindOk
  by_cases h1 : k = 1
  · subst h1; rfl
  by_cases h2 : k = 2
  · subst h2; rfl
  by_cases h4 : k = 4
  · subst h4; rfl
  simp [h1, h2, h4]
theorem c_impl_hasPage (a : Int) : FnOK Try.prog 124 [di a] (rb (inR a 0 63)) := by
  refine fn_of lv124 Try.func124 rfl rfl (by kernel_rfl) rfl ?_
  refine .inl ⟨_, _, rfl, c_impl_within a 0 63, rfl, ?_⟩
  exact ⟨⟨rfl, trivial⟩, rfl⟩
/-- where a place leads, with a code -/
def walkI (l : List PageM) (at_ kind : Int) : Int × Int := if walkP l at_ kind < 0 then (kindC kind, 0) else (0, walkP l at_ kind)
structure PgsOK (l : List PageM) (top : Int) : Prop where
  len : l.length = 8
  at_ : ∀ p ∈ l, -1 ≤ p.to ∧ p.to < top ∧ 0 ≤ p.kinds ∧ p.kinds ≤ 7
theorem PgsOK.get {l : List PageM} {top : Int} (h : PgsOK l top) {i : Nat} (hi : i < 8) : -1 ≤ (l.getD i ⟨0, 0⟩).to ∧ (l.getD i ⟨0, 0⟩).to < top := by
  rw [getD_at _ (by rw [h.len]; exact hi)]
  have := h.at_ _ (List.getElem_mem (by rw [h.len]; exact hi : i < l.length))
  exact ⟨this.1, this.2.1⟩
theorem walk_get {l : List PageM} {top at_ : Int} (h : PgsOK l top) (ht : top ≤ 24) (ha : inR at_ 0 63 = true) (h0 : ¬ (pageAt l at_).to < 0) :
    IntKind.i64.wrap (IntKind.i64.wrap ((pageAt l at_).to * 8) + Int.tmod at_ 8) = (pageAt l at_).to * 8 + Int.tmod at_ 8 ∧ 0 ≤ (pageAt l at_).to * 8 + Int.tmod at_ 8 ∧ (pageAt l at_).to * 8 + Int.tmod at_ 8 < top * 8 := by
  have h2 := inR_iff.1 ha
  obtain ⟨e1, e2, e3⟩ := div8 h2.1 h2.2
  have h3 : Int.tmod at_ 8 = at_ % 8 := Int.tmod_eq_emod_of_nonneg h2.1
  have h4 : (pageAt l at_).to < top := (h.get (by rw [e1]; omega)).2
  have e4 : IntKind.i64.wrap ((pageAt l at_).to * 8) = (pageAt l at_).to * 8 := wrap_i64 _ (by omega) (by omega)
  rw [e4, h3]
  exact ⟨wrap_i64 _ (by omega) (by omega), by omega, by omega⟩
theorem c_impl_walk (l : List PageM) (top : Int) (hl : PgsOK l top) (ht : top ≤ 24) (at_ kind : Int) : FnOK Try.prog 113 [.d (pages l), di at_, di kind] (.r (irR (walkI l at_ kind))) := by
  have hlen := hl.len
  obtain ⟨v, hv⟩ : ∃ v, v = walkI l at_ kind := ⟨_, rfl⟩
  rw [← hv]
  unfold walkI walkP at hv
  have hw : inR at_ 0 63 = true → decide ((pageAt l at_).to < 0) = false → _ := fun a b => walk_get hl ht a (of_decide_eq_false b)
  have hd : inR at_ 0 63 = true → _ := fun a => div8 (inR_iff.1 a).1 (inR_iff.1 a).2
  refine fn_of lv113 Try.func113 rfl rfl (by kernel_rfl) rfl ?_
  refine .inl ⟨_, _, rfl, c_impl_hasPage at_, rfl, ?_⟩
  refine bsplit_intro (fun h => ?_) (fun h => ?_)
  · repeat' (first | refine bsplit_true ?_ | refine bsplit_false ?_)
    rw [h, cond_true, if_pos (by decide)] at hv
    subst hv
    refine .inl ⟨_, _, rfl, c_impl_kindCode kind, rfl, ?_⟩
    exact ⟨⟨rfl, rfl, trivial⟩, rfl⟩
  rw [h, cond_false] at hv
  have hin : inR at_ 0 63 = true := by simpa using h
  have e1 := (hd hin).1
  have e2 := (hd hin).2.1
  have e3 := (hd hin).2.2
  repeat' (first | refine bsplit_true ?_ | refine bsplit_false ?_)
  refine ask_intro (by decide) ?_
  repeat' (first | refine bsplit_true ?_ | refine bsplit_false ?_)
  refine ask_intro ⟨by omega, by show IntKind.i64.wrap (Int.tdiv at_ 8) < (l.length : Int); omega, rfl⟩ ?_
  repeat' (first | refine bsplit_true ?_ | refine bsplit_false ?_)
  refine bsplit_intro (fun h3 => ?_) (fun h3 => ?_)
  · repeat' (first | refine bsplit_true ?_ | refine bsplit_false ?_)
    rw [show decide ((pageAt l at_).to < 0) = true from h3, Bool.true_or, cond_true, if_pos (by decide)] at hv
    subst hv
    refine .inl ⟨_, _, rfl, c_impl_kindCode kind, rfl, ?_⟩
    exact ⟨⟨rfl, rfl, trivial⟩, rfl⟩
  rw [show decide ((pageAt l at_).to < 0) = false from h3, Bool.false_or] at hv
  have w1 := (hw hin h3).1
  have w2 := (hw hin h3).2.1
  repeat' (first | refine bsplit_true ?_ | refine bsplit_false ?_)
  refine ask_intro (by decide) ?_
  repeat' (first | refine bsplit_true ?_ | refine bsplit_false ?_)
  refine ask_intro ⟨by omega, by show IntKind.i64.wrap (Int.tdiv at_ 8) < (l.length : Int); omega, rfl⟩ ?_
  repeat' (first | refine bsplit_true ?_ | refine bsplit_false ?_)
  refine bsplit_intro (fun h4 => ?_) (fun h4 => ?_)
  · rw [show (andI (pageAt l at_).kinds kind == 0) = true from h4, cond_true, if_pos (by decide)] at hv
    subst hv
    refine .inl ⟨_, _, rfl, c_impl_kindCode kind, rfl, ?_⟩
    exact ⟨⟨rfl, rfl, trivial⟩, rfl⟩
  rw [show (andI (pageAt l at_).kinds kind == 0) = false from h4, cond_false, if_neg (by rw [w1]; omega)] at hv
  subst hv
  refine ask_intro (by decide) ?_
  refine ask_intro ⟨by omega, by show IntKind.i64.wrap (Int.tdiv at_ 8) < (l.length : Int); omega, rfl⟩ ?_
  refine ask_intro (by decide) ?_
  exact ⟨⟨rfl, rfl, trivial⟩, rfl⟩
end Go.Proofs.Ytojaakpnpdnbhaa.L

/- Policies: what the law functions compute on them (to, size, equality): contracts. -/
set_option linter.unusedVariables false
set_option linter.unusedSimpArgs false
set_option maxRecDepth 100000
namespace Go.Proofs.Ytojaakpnpdnbhaa.L
open Go.RowKit
structure LaneM where
  frm : Int
  to : Int
  page : Int
  af : Int
  at_ : Int
  deriving DecidableEq
abbrev laneD (p : LaneM) : List D := [dI p.frm, dI p.to, dI p.page, dI p.af, dI p.at_]
abbrev laneLV (p : LaneM) : LV := .agg [di p.frm, di p.to, di p.page, di p.af, di p.at_]
abbrev lanesF (l : List LaneM) (i : Nat) : List D := laneD (l.getD i ⟨0, 0, 0, 0, 0⟩)
abbrev lanes (l : List LaneM) : D := .l l.length (lanesF l)
abbrev oLanes (l : List LaneM) : RC := .own 146 5 l.length (lanesF l)
theorem c_laws_toLane (p : LaneM) : FnOK Try.prog 146 [laneLV p] (.r (.agg [.v (.int .i64 p.frm), .v (.int .i64 p.to), .v (.int .i64 p.page), .v (.int .i64 p.af), .v (.int .i64 p.at_)])) := by
  refine fn_of lv146 Try.func146 rfl rfl (by kernel_rfl) rfl ?_
  exact ⟨⟨rfl, rfl, rfl, rfl, rfl, trivial⟩, rfl⟩
theorem c_laws_toLaneS (l : List LaneM) (hl : l.length * 40 ≤ 140737488355328) : FnOK Try.prog 79 [.d (lanes l)] (.r (.one (oLanes l))) := by
  refine fn_of lv79 Try.func79 rfl rfl (by kernel_rfl) rfl ?_
  refine ask_intro ⟨rfl, by omega, by show (l.length : Int) * 40 ≤ 140737488355328; omega, by omega⟩ ?_
  refine ⟨{ i : Nat // i ≤ l.length }, fun i => ⟨frL [(0, .d (lanes l)), (3, .row 96), (4, di i.1)], hpL [(96, .row 146 5 l.length fun j => if j < i.1 then lanesF l j else laneD ⟨0, 0, 0, 0, 0⟩)], 97, 0⟩, fun i => l.length - i.1, ⟨0, by omega⟩,
    le_of [(96, 4160)] rfl rfl rfl rfl (tellHp_row rfl rfl rfl (fun i hi => rfl) tellHp_nil) (tellFr_d rfl (DLe.refl _) (tellFr_row rfl rfl (tellFr_v rfl rfl trivial))), ?_⟩
  rintro ⟨i, hi⟩
  refine bsplit_intro (fun h => ?_) (fun h => ?_)
  · have h : i < l.length := by simp at h; exact h
    refine ask_intro ⟨by omega, by simp; omega, rfl⟩ ?_
    refine .inl ⟨_, _, rfl, c_laws_toLane (l.getD i ⟨0, 0, 0, 0, 0⟩), rfl, ?_⟩
    refine ask_intro ⟨by omega, by simp; omega⟩ ?_
    refine ask_intro (by show i < l.length; exact h) ?_
    refine ⟨⟨i + 1, by omega⟩, le_of [(96, 96)] rfl rfl rfl rfl (tellHp_row rfl rfl rfl (fun j hj => ?_) tellHp_nil) (tellFr_d rfl (DLe.refl _) (tellFr_row rfl rfl (tellFr_v rfl (congrArg (Value.int .i64) (?_ : IntKind.i64.wrap ((i : Int) + 1) = ((i + 1 : Nat) : Int))) trivial))), ?_⟩
    · show (if j = i then splice (if j < i then lanesF l j else laneD ⟨0, 0, 0, 0, 0⟩) 0 (laneD (l.getD i ⟨0, 0, 0, 0, 0⟩)) else if j < i then lanesF l j else laneD ⟨0, 0, 0, 0, 0⟩) = if j < i + 1 then lanesF l j else laneD ⟨0, 0, 0, 0, 0⟩
      by_cases h1 : j = i
      · subst h1
        rw [if_pos rfl, if_neg (by omega), if_pos (by omega)]
        rfl
      · rw [if_neg h1]
        by_cases h2 : j < i
        · rw [if_pos h2, if_pos (by omega)]
        · rw [if_neg h2, if_neg (by omega)]
    · exact wrap_i64 (i + 1) (by omega) (by omega)
    · show l.length - (i + 1) < l.length - i
      omega
  · simp at h
    refine ⟨⟨⟨rfl, rfl, rfl, fun j hj => ⟨?_, rfl⟩⟩, trivial⟩, rfl⟩
    show (if j < i then lanesF l j else _) = _
    rw [if_pos (by omega)]
theorem c_laws_szLaneS (l : List LaneM) (q : Int) (hq : -9223372036854775808 ≤ q - l.length) (hq2 : q - l.length < 9223372036854775808) : FnOK Try.prog 72 [.d (lanes l), di q] (ri (if q - l.length < 0 then -1 else q - l.length)) := by
  refine fn_of lv72 Try.func72 rfl rfl (by kernel_rfl) rfl ?_
  refine bsplit_intro (fun h => ?_) (fun h => ?_)
  · refine ⟨⟨congrArg (Value.int .i64) (?_ : (-1 : Int) = _), trivial⟩, rfl⟩
    rw [wrap_i64 _ hq hq2] at h
    simp only [decide_eq_true_eq] at h
    rw [if_pos h]
  · refine ⟨⟨congrArg (Value.int .i64) (?_ : IntKind.i64.wrap (q - l.length) = _), trivial⟩, rfl⟩
    rw [wrap_i64 _ hq hq2] at h ⊢
    simp only [decide_eq_false_iff_not] at h
    rw [if_neg h]
theorem c_laws_eqLane (p q : LaneM) : FnOK Try.prog 153 [laneLV p, laneLV q] (rb (decide (p = q))) := by
  refine fn_of lv153 Try.func153 rfl rfl (by kernel_rfl) rfl ?_
  repeat' (refine bsplit_intro (fun h => ?_) (fun h => ?_))
  all_goals refine ⟨⟨congrArg Value.bool ?_, trivial⟩, rfl⟩
  all_goals (obtain ⟨a0, a1, a2, a3, a4⟩ := p; obtain ⟨b0, b1, b2, b3, b4⟩ := q; simp_all)
theorem c_laws_eqLaneS (l m : List LaneM) (hl : l.length ≤ 9223372036854775807) : FnOK Try.prog 83 [.d (lanes l), .d (lanes m)] (rb (decide (l = m))) := by
  refine fn_of lv83 Try.func83 rfl rfl (by kernel_rfl) rfl ?_
  refine bsplit_intro (fun h => ?_) (fun h => ?_)
  · refine ⟨⟨congrArg Value.bool (?_ : false = _), trivial⟩, rfl⟩
    simp at h
    symm
    rw [decide_eq_false_iff_not]
    rintro rfl
    exact h rfl
  have hlen : l.length = m.length := by simp at h; omega
  refine ⟨{ i : Nat // i ≤ l.length ∧ decide (l.drop i = m.drop i) = decide (l = m) }, fun i => ⟨frL [(0, .d (lanes l)), (1, .d (lanes m)), (5, di i.1)], hpL [], 0, 0⟩, fun i => l.length - i.1, ⟨0, by simp⟩,
    le_of [] rfl rfl rfl rfl trivial (tellFr_d rfl (DLe.refl _) (tellFr_d rfl (DLe.refl _) (tellFr_v rfl rfl trivial))), ?_⟩
  rintro ⟨i, hi, hall⟩
  refine bsplit_intro (fun h => ?_) (fun h => ?_)
  · have h : i < l.length := by simp at h; exact h
    rw [drop_consG ⟨0, 0, 0, 0, 0⟩ l i h, drop_consG ⟨0, 0, 0, 0, 0⟩ m i (by omega)] at hall
    refine ask_intro ⟨by omega, by simp; omega, rfl⟩ ?_
    refine ask_intro ⟨by omega, by simp; omega, rfl⟩ ?_
    refine .inl ⟨_, _, rfl, c_laws_eqLane (l.getD i ⟨0, 0, 0, 0, 0⟩) (m.getD i ⟨0, 0, 0, 0, 0⟩), rfl, ?_⟩
    refine chk_intro (by kernel_rfl) ?_
    refine bsplit_intro (fun h2 => ?_) (fun h2 => ?_)
    · refine ⟨⟨congrArg Value.bool (?_ : false = _), trivial⟩, rfl⟩
      have h2 : ¬ l.getD i ⟨0, 0, 0, 0, 0⟩ = m.getD i ⟨0, 0, 0, 0, 0⟩ := by simpa only [Bool.not_eq_true', decide_eq_false_iff_not] using h2
      rw [← hall]
      symm
      rw [decide_eq_false_iff_not]
      intro e
      exact h2 (List.cons.inj e).1
    · have h2 : l.getD i ⟨0, 0, 0, 0, 0⟩ = m.getD i ⟨0, 0, 0, 0, 0⟩ := by simpa only [Bool.not_eq_false', decide_eq_true_eq] using h2
      rw [h2] at hall
      refine ⟨⟨i + 1, by omega, by rw [← hall]; simp⟩, le_of [] rfl rfl rfl rfl trivial (tellFr_d rfl (DLe.refl _) (tellFr_d rfl (DLe.refl _) (tellFr_v rfl (congrArg (Value.int .i64) (?_ : IntKind.i64.wrap ((i : Int) + 1) = ((i + 1 : Nat) : Int))) trivial))), by show l.length - (i + 1) < l.length - i; omega⟩
      exact wrap_i64 (i + 1) (by omega) (by omega)
  · refine ⟨⟨congrArg Value.bool (?_ : true = _), trivial⟩, rfl⟩
    simp at h
    rw [← hall, List.drop_eq_nil_of_le h, List.drop_eq_nil_of_le (by omega)]; simp
structure BellM where
  frm : Int
  to : Int
  deriving DecidableEq
abbrev bellD (p : BellM) : List D := [dI p.frm, dI p.to]
abbrev bellLV (p : BellM) : LV := .agg [di p.frm, di p.to]
abbrev bellsF (l : List BellM) (i : Nat) : List D := bellD (l.getD i ⟨0, 0⟩)
abbrev bells (l : List BellM) : D := .l l.length (bellsF l)
abbrev oBells (l : List BellM) : RC := .own 173 2 l.length (bellsF l)
theorem c_laws_toBell (p : BellM) : FnOK Try.prog 147 [bellLV p] (.r (.agg [.v (.int .i64 p.frm), .v (.int .i64 p.to)])) := by
  refine fn_of lv147 Try.func147 rfl rfl (by kernel_rfl) rfl ?_
  exact ⟨⟨rfl, rfl, trivial⟩, rfl⟩
theorem c_laws_toBellS (l : List BellM) (hl : l.length * 16 ≤ 140737488355328) : FnOK Try.prog 80 [.d (bells l)] (.r (.one (oBells l))) := by
  refine fn_of lv80 Try.func80 rfl rfl (by kernel_rfl) rfl ?_
  refine ask_intro ⟨rfl, by omega, by show (l.length : Int) * 16 ≤ 140737488355328; omega, by omega⟩ ?_
  refine ⟨{ i : Nat // i ≤ l.length }, fun i => ⟨frL [(0, .d (bells l)), (3, .row 96), (4, di i.1)], hpL [(96, .row 173 2 l.length fun j => if j < i.1 then bellsF l j else bellD ⟨0, 0⟩)], 97, 0⟩, fun i => l.length - i.1, ⟨0, by omega⟩,
    le_of [(96, 4160)] rfl rfl rfl rfl (tellHp_row rfl rfl rfl (fun i hi => rfl) tellHp_nil) (tellFr_d rfl (DLe.refl _) (tellFr_row rfl rfl (tellFr_v rfl rfl trivial))), ?_⟩
  rintro ⟨i, hi⟩
  refine bsplit_intro (fun h => ?_) (fun h => ?_)
  · have h : i < l.length := by simp at h; exact h
    refine ask_intro ⟨by omega, by simp; omega, rfl⟩ ?_
    refine .inl ⟨_, _, rfl, c_laws_toBell (l.getD i ⟨0, 0⟩), rfl, ?_⟩
    refine ask_intro ⟨by omega, by simp; omega⟩ ?_
    refine ask_intro (by show i < l.length; exact h) ?_
    refine ⟨⟨i + 1, by omega⟩, le_of [(96, 96)] rfl rfl rfl rfl (tellHp_row rfl rfl rfl (fun j hj => ?_) tellHp_nil) (tellFr_d rfl (DLe.refl _) (tellFr_row rfl rfl (tellFr_v rfl (congrArg (Value.int .i64) (?_ : IntKind.i64.wrap ((i : Int) + 1) = ((i + 1 : Nat) : Int))) trivial))), ?_⟩
    · show (if j = i then splice (if j < i then bellsF l j else bellD ⟨0, 0⟩) 0 (bellD (l.getD i ⟨0, 0⟩)) else if j < i then bellsF l j else bellD ⟨0, 0⟩) = if j < i + 1 then bellsF l j else bellD ⟨0, 0⟩
      by_cases h1 : j = i
      · subst h1
        rw [if_pos rfl, if_neg (by omega), if_pos (by omega)]
        rfl
      · rw [if_neg h1]
        by_cases h2 : j < i
        · rw [if_pos h2, if_pos (by omega)]
        · rw [if_neg h2, if_neg (by omega)]
    · exact wrap_i64 (i + 1) (by omega) (by omega)
    · show l.length - (i + 1) < l.length - i
      omega
  · simp at h
    refine ⟨⟨⟨rfl, rfl, rfl, fun j hj => ⟨?_, rfl⟩⟩, trivial⟩, rfl⟩
    show (if j < i then bellsF l j else _) = _
    rw [if_pos (by omega)]
theorem c_laws_szBellS (l : List BellM) (q : Int) (hq : -9223372036854775808 ≤ q - l.length) (hq2 : q - l.length < 9223372036854775808) : FnOK Try.prog 73 [.d (bells l), di q] (ri (if q - l.length < 0 then -1 else q - l.length)) := by
  refine fn_of lv73 Try.func73 rfl rfl (by kernel_rfl) rfl ?_
  refine bsplit_intro (fun h => ?_) (fun h => ?_)
  · refine ⟨⟨congrArg (Value.int .i64) (?_ : (-1 : Int) = _), trivial⟩, rfl⟩
    rw [wrap_i64 _ hq hq2] at h
    simp only [decide_eq_true_eq] at h
    rw [if_pos h]
  · refine ⟨⟨congrArg (Value.int .i64) (?_ : IntKind.i64.wrap (q - l.length) = _), trivial⟩, rfl⟩
    rw [wrap_i64 _ hq hq2] at h ⊢
    simp only [decide_eq_false_iff_not] at h
    rw [if_neg h]
theorem c_laws_eqBell (p q : BellM) : FnOK Try.prog 154 [bellLV p, bellLV q] (rb (decide (p = q))) := by
  refine fn_of lv154 Try.func154 rfl rfl (by kernel_rfl) rfl ?_
  repeat' (refine bsplit_intro (fun h => ?_) (fun h => ?_))
  all_goals refine ⟨⟨congrArg Value.bool ?_, trivial⟩, rfl⟩
  all_goals (obtain ⟨a0, a1⟩ := p; obtain ⟨b0, b1⟩ := q; simp_all)
theorem c_laws_eqBellS (l m : List BellM) (hl : l.length ≤ 9223372036854775807) : FnOK Try.prog 84 [.d (bells l), .d (bells m)] (rb (decide (l = m))) := by
  refine fn_of lv84 Try.func84 rfl rfl (by kernel_rfl) rfl ?_
  refine bsplit_intro (fun h => ?_) (fun h => ?_)
  · refine ⟨⟨congrArg Value.bool (?_ : false = _), trivial⟩, rfl⟩
    simp at h
    symm
    rw [decide_eq_false_iff_not]
    rintro rfl
    exact h rfl
  have hlen : l.length = m.length := by simp at h; omega
  refine ⟨{ i : Nat // i ≤ l.length ∧ decide (l.drop i = m.drop i) = decide (l = m) }, fun i => ⟨frL [(0, .d (bells l)), (1, .d (bells m)), (5, di i.1)], hpL [], 0, 0⟩, fun i => l.length - i.1, ⟨0, by simp⟩,
    le_of [] rfl rfl rfl rfl trivial (tellFr_d rfl (DLe.refl _) (tellFr_d rfl (DLe.refl _) (tellFr_v rfl rfl trivial))), ?_⟩
  rintro ⟨i, hi, hall⟩
  refine bsplit_intro (fun h => ?_) (fun h => ?_)
  · have h : i < l.length := by simp at h; exact h
    rw [drop_consG ⟨0, 0⟩ l i h, drop_consG ⟨0, 0⟩ m i (by omega)] at hall
    refine ask_intro ⟨by omega, by simp; omega, rfl⟩ ?_
    refine ask_intro ⟨by omega, by simp; omega, rfl⟩ ?_
    refine .inl ⟨_, _, rfl, c_laws_eqBell (l.getD i ⟨0, 0⟩) (m.getD i ⟨0, 0⟩), rfl, ?_⟩
    refine chk_intro (by kernel_rfl) ?_
    refine bsplit_intro (fun h2 => ?_) (fun h2 => ?_)
    · refine ⟨⟨congrArg Value.bool (?_ : false = _), trivial⟩, rfl⟩
      have h2 : ¬ l.getD i ⟨0, 0⟩ = m.getD i ⟨0, 0⟩ := by simpa only [Bool.not_eq_true', decide_eq_false_iff_not] using h2
      rw [← hall]
      symm
      rw [decide_eq_false_iff_not]
      intro e
      exact h2 (List.cons.inj e).1
    · have h2 : l.getD i ⟨0, 0⟩ = m.getD i ⟨0, 0⟩ := by simpa only [Bool.not_eq_false', decide_eq_true_eq] using h2
      rw [h2] at hall
      refine ⟨⟨i + 1, by omega, by rw [← hall]; simp⟩, le_of [] rfl rfl rfl rfl trivial (tellFr_d rfl (DLe.refl _) (tellFr_d rfl (DLe.refl _) (tellFr_v rfl (congrArg (Value.int .i64) (?_ : IntKind.i64.wrap ((i : Int) + 1) = ((i + 1 : Nat) : Int))) trivial))), by show l.length - (i + 1) < l.length - i; omega⟩
      exact wrap_i64 (i + 1) (by omega) (by omega)
  · refine ⟨⟨congrArg Value.bool (?_ : true = _), trivial⟩, rfl⟩
    simp at h
    rw [← hall, List.drop_eq_nil_of_le h, List.drop_eq_nil_of_le (by omega)]; simp
structure SlotM where
  guest : Int
  steps : Int
  deriving DecidableEq
abbrev slotD (p : SlotM) : List D := [dI p.guest, dI p.steps]
abbrev slotLV (p : SlotM) : LV := .agg [di p.guest, di p.steps]
abbrev slotsF (l : List SlotM) (i : Nat) : List D := slotD (l.getD i ⟨0, 0⟩)
abbrev slots (l : List SlotM) : D := .l l.length (slotsF l)
abbrev oSlots (l : List SlotM) : RC := .own 177 2 l.length (slotsF l)
theorem c_laws_toSlot (p : SlotM) : FnOK Try.prog 148 [slotLV p] (.r (.agg [.v (.int .i64 p.guest), .v (.int .i64 p.steps)])) := by
  refine fn_of lv148 Try.func148 rfl rfl (by kernel_rfl) rfl ?_
  exact ⟨⟨rfl, rfl, trivial⟩, rfl⟩
theorem c_laws_toSlotS (l : List SlotM) (hl : l.length * 16 ≤ 140737488355328) : FnOK Try.prog 81 [.d (slots l)] (.r (.one (oSlots l))) := by
  refine fn_of lv81 Try.func81 rfl rfl (by kernel_rfl) rfl ?_
  refine ask_intro ⟨rfl, by omega, by show (l.length : Int) * 16 ≤ 140737488355328; omega, by omega⟩ ?_
  refine ⟨{ i : Nat // i ≤ l.length }, fun i => ⟨frL [(0, .d (slots l)), (3, .row 96), (4, di i.1)], hpL [(96, .row 177 2 l.length fun j => if j < i.1 then slotsF l j else slotD ⟨0, 0⟩)], 97, 0⟩, fun i => l.length - i.1, ⟨0, by omega⟩,
    le_of [(96, 4160)] rfl rfl rfl rfl (tellHp_row rfl rfl rfl (fun i hi => rfl) tellHp_nil) (tellFr_d rfl (DLe.refl _) (tellFr_row rfl rfl (tellFr_v rfl rfl trivial))), ?_⟩
  rintro ⟨i, hi⟩
  refine bsplit_intro (fun h => ?_) (fun h => ?_)
  · have h : i < l.length := by simp at h; exact h
    refine ask_intro ⟨by omega, by simp; omega, rfl⟩ ?_
    refine .inl ⟨_, _, rfl, c_laws_toSlot (l.getD i ⟨0, 0⟩), rfl, ?_⟩
    refine ask_intro ⟨by omega, by simp; omega⟩ ?_
    refine ask_intro (by show i < l.length; exact h) ?_
    refine ⟨⟨i + 1, by omega⟩, le_of [(96, 96)] rfl rfl rfl rfl (tellHp_row rfl rfl rfl (fun j hj => ?_) tellHp_nil) (tellFr_d rfl (DLe.refl _) (tellFr_row rfl rfl (tellFr_v rfl (congrArg (Value.int .i64) (?_ : IntKind.i64.wrap ((i : Int) + 1) = ((i + 1 : Nat) : Int))) trivial))), ?_⟩
    · show (if j = i then splice (if j < i then slotsF l j else slotD ⟨0, 0⟩) 0 (slotD (l.getD i ⟨0, 0⟩)) else if j < i then slotsF l j else slotD ⟨0, 0⟩) = if j < i + 1 then slotsF l j else slotD ⟨0, 0⟩
      by_cases h1 : j = i
      · subst h1
        rw [if_pos rfl, if_neg (by omega), if_pos (by omega)]
        rfl
      · rw [if_neg h1]
        by_cases h2 : j < i
        · rw [if_pos h2, if_pos (by omega)]
        · rw [if_neg h2, if_neg (by omega)]
    · exact wrap_i64 (i + 1) (by omega) (by omega)
    · show l.length - (i + 1) < l.length - i
      omega
  · simp at h
    refine ⟨⟨⟨rfl, rfl, rfl, fun j hj => ⟨?_, rfl⟩⟩, trivial⟩, rfl⟩
    show (if j < i then slotsF l j else _) = _
    rw [if_pos (by omega)]
theorem c_laws_szSlotS (l : List SlotM) (q : Int) (hq : -9223372036854775808 ≤ q - l.length) (hq2 : q - l.length < 9223372036854775808) : FnOK Try.prog 74 [.d (slots l), di q] (ri (if q - l.length < 0 then -1 else q - l.length)) := by
  refine fn_of lv74 Try.func74 rfl rfl (by kernel_rfl) rfl ?_
  refine bsplit_intro (fun h => ?_) (fun h => ?_)
  · refine ⟨⟨congrArg (Value.int .i64) (?_ : (-1 : Int) = _), trivial⟩, rfl⟩
    rw [wrap_i64 _ hq hq2] at h
    simp only [decide_eq_true_eq] at h
    rw [if_pos h]
  · refine ⟨⟨congrArg (Value.int .i64) (?_ : IntKind.i64.wrap (q - l.length) = _), trivial⟩, rfl⟩
    rw [wrap_i64 _ hq hq2] at h ⊢
    simp only [decide_eq_false_iff_not] at h
    rw [if_neg h]
theorem c_laws_eqSlot (p q : SlotM) : FnOK Try.prog 155 [slotLV p, slotLV q] (rb (decide (p = q))) := by
  refine fn_of lv155 Try.func155 rfl rfl (by kernel_rfl) rfl ?_
  repeat' (refine bsplit_intro (fun h => ?_) (fun h => ?_))
  all_goals refine ⟨⟨congrArg Value.bool ?_, trivial⟩, rfl⟩
  all_goals (obtain ⟨a0, a1⟩ := p; obtain ⟨b0, b1⟩ := q; simp_all)
theorem c_laws_eqSlotS (l m : List SlotM) (hl : l.length ≤ 9223372036854775807) : FnOK Try.prog 85 [.d (slots l), .d (slots m)] (rb (decide (l = m))) := by
  refine fn_of lv85 Try.func85 rfl rfl (by kernel_rfl) rfl ?_
  refine bsplit_intro (fun h => ?_) (fun h => ?_)
  · refine ⟨⟨congrArg Value.bool (?_ : false = _), trivial⟩, rfl⟩
    simp at h
    symm
    rw [decide_eq_false_iff_not]
    rintro rfl
    exact h rfl
  have hlen : l.length = m.length := by simp at h; omega
  refine ⟨{ i : Nat // i ≤ l.length ∧ decide (l.drop i = m.drop i) = decide (l = m) }, fun i => ⟨frL [(0, .d (slots l)), (1, .d (slots m)), (5, di i.1)], hpL [], 0, 0⟩, fun i => l.length - i.1, ⟨0, by simp⟩,
    le_of [] rfl rfl rfl rfl trivial (tellFr_d rfl (DLe.refl _) (tellFr_d rfl (DLe.refl _) (tellFr_v rfl rfl trivial))), ?_⟩
  rintro ⟨i, hi, hall⟩
  refine bsplit_intro (fun h => ?_) (fun h => ?_)
  · have h : i < l.length := by simp at h; exact h
    rw [drop_consG ⟨0, 0⟩ l i h, drop_consG ⟨0, 0⟩ m i (by omega)] at hall
    refine ask_intro ⟨by omega, by simp; omega, rfl⟩ ?_
    refine ask_intro ⟨by omega, by simp; omega, rfl⟩ ?_
    refine .inl ⟨_, _, rfl, c_laws_eqSlot (l.getD i ⟨0, 0⟩) (m.getD i ⟨0, 0⟩), rfl, ?_⟩
    refine chk_intro (by kernel_rfl) ?_
    refine bsplit_intro (fun h2 => ?_) (fun h2 => ?_)
    · refine ⟨⟨congrArg Value.bool (?_ : false = _), trivial⟩, rfl⟩
      have h2 : ¬ l.getD i ⟨0, 0⟩ = m.getD i ⟨0, 0⟩ := by simpa only [Bool.not_eq_true', decide_eq_false_iff_not] using h2
      rw [← hall]
      symm
      rw [decide_eq_false_iff_not]
      intro e
      exact h2 (List.cons.inj e).1
    · have h2 : l.getD i ⟨0, 0⟩ = m.getD i ⟨0, 0⟩ := by simpa only [Bool.not_eq_false', decide_eq_true_eq] using h2
      rw [h2] at hall
      refine ⟨⟨i + 1, by omega, by rw [← hall]; simp⟩, le_of [] rfl rfl rfl rfl trivial (tellFr_d rfl (DLe.refl _) (tellFr_d rfl (DLe.refl _) (tellFr_v rfl (congrArg (Value.int .i64) (?_ : IntKind.i64.wrap ((i : Int) + 1) = ((i + 1 : Nat) : Int))) trivial))), by show l.length - (i + 1) < l.length - i; omega⟩
      exact wrap_i64 (i + 1) (by omega) (by omega)
  · refine ⟨⟨congrArg Value.bool (?_ : true = _), trivial⟩, rfl⟩
    simp at h
    rw [← hall, List.drop_eq_nil_of_le h, List.drop_eq_nil_of_le (by omega)]; simp
end Go.Proofs.Ytojaakpnpdnbhaa.L

/- Policies: read, measured, compared: contracts. -/
set_option linter.unusedVariables false
set_option linter.unusedSimpArgs false
set_option maxRecDepth 100000
namespace Go.Proofs.Ytojaakpnpdnbhaa.L
open Go.RowKit
abbrev ownsF (l : List (List Int)) (i : Nat) : List D := [ints (l.getD i [])]
abbrev owns (l : List (List Int)) : D := .l l.length (ownsF l)
abbrev lenF (l : List (List Int)) (i : Nat) : Nat := (l.getD i []).length
abbrev inF (l : List (List Int)) (i j : Nat) : List D := intsF (l.getD i []) j
abbrev oOwns (l : List (List Int)) : RC := .ownn 30 2 1 l.length (lenF l) (inF l)
def sumN (l : List (List Int)) : Nat := (l.map List.length).sum
theorem sumN_take (l : List (List Int)) (i : Nat) (h : i < l.length) : sumN (l.take (i + 1)) = sumN (l.take i) + (l.getD i []).length := by
  unfold sumN
  rw [List.take_succ_eq_append_getElem h, List.map_append, List.sum_append, getD_at _ h]
  simp
theorem sumN_le (l : List (List Int)) (i : Nat) : sumN (l.take i) ≤ sumN l := by
  unfold sumN
  conv => rhs; rw [← List.take_append_drop i l, List.map_append, List.sum_append]
  omega
theorem sumN_get (l : List (List Int)) (i : Nat) (h : i < l.length) : (l.getD i []).length ≤ sumN l := by
  have := sumN_take l i h
  have := sumN_le l (i + 1)
  omega
theorem c_laws_toInt64SS (l : List (List Int)) (hl : l.length * 24 ≤ 140737488355328) (hs : ∀ i, i < l.length → (l.getD i []).length * 8 ≤ 140737488355328) : FnOK Try.prog 15 [.d (owns l)] (.r (.one (oOwns l))) := by
  refine fn_of lv15 Try.func15 rfl rfl (by kernel_rfl) rfl ?_
  refine ask_intro ⟨rfl, by omega, by show (l.length : Int) * 24 ≤ 140737488355328; omega, by omega⟩ ?_
  refine ⟨{ i : Nat // i ≤ l.length }, fun i => ⟨frL [(0, .d (owns l)), (3, .row 96), (4, di i.1)], hpL [(96, .nest 30 2 1 l.length (fun j => if j < i.1 then lenF l j else 0) (inF l) [])], 97, 0⟩, fun i => l.length - i.1, ⟨0, by omega⟩,
    le_of [(96, 4160)] rfl rfl rfl rfl (tellHp_nest rfl rfl rfl (fun i hi => ⟨rfl, fun j hj => absurd hj (Nat.not_lt_zero _)⟩) tellHp_nil) (tellFr_d rfl (DLe.refl _) (tellFr_row rfl rfl (tellFr_v rfl rfl trivial))), ?_⟩
  rintro ⟨i, hi⟩
  refine bsplit_intro (fun h => ?_) (fun h => ?_)
  · have h : i < l.length := by simp at h; exact h
    refine ask_intro ⟨by omega, by simp; omega, rfl⟩ ?_
    refine .inl ⟨_, _, rfl, c_laws_toInt64S (l.getD i []) (hs i h), rfl, ?_⟩
    refine ask_intro ⟨by omega, by simp; omega⟩ ?_
    refine ask_intro (by show i < l.length; exact h) ?_
    refine ⟨⟨i + 1, by omega⟩, le_of [(96, 96)] rfl rfl rfl rfl (tellHp_hole rfl rfl rfl rfl rfl rfl ⟨?_, fun j hj => rfl⟩ (fun j hj hne => ⟨?_, fun q hq => rfl⟩) tellHp_nil) (tellFr_d rfl (DLe.refl _) (tellFr_row rfl rfl (tellFr_v rfl (congrArg (Value.int .i64) (?_ : IntKind.i64.wrap ((i : Int) + 1) = ((i + 1 : Nat) : Int))) trivial))), ?_⟩
    · show _ = if i < i + 1 then lenF l i else 0
      rw [if_pos (by omega)]
    · show (if j < i then lenF l j else 0) = if j < i + 1 then lenF l j else 0
      have hne : j ≠ i := hne
      by_cases h2 : j < i
      · rw [if_pos h2, if_pos (by omega)]
      · rw [if_neg h2, if_neg (by omega)]
    · exact wrap_i64 (i + 1) (by omega) (by omega)
    · show l.length - (i + 1) < l.length - i
      omega
  · simp at h
    refine ⟨⟨⟨rfl, rfl, rfl, rfl, fun j hj => ⟨?_, fun q hq => ⟨rfl, rfl⟩⟩⟩, trivial⟩, rfl⟩
    show (if j < i then lenF l j else _) = _
    rw [if_pos (by omega)]
def szO (l : List (List Int)) (q : Int) : Int := if q - (l.length + sumN l : Nat) < 0 then -1 else q - (l.length + sumN l : Nat)
theorem c_laws_szInt64SS (l : List (List Int)) (hl : l.length * 24 ≤ 140737488355328) (hs : ∀ i, i < l.length → (l.getD i []).length * 8 ≤ 140737488355328) (q : Int) (h0 : 0 ≤ q) (h1 : q ≤ 1048576) : FnOK Try.prog 12 [.d (owns l), di q] (ri (szO l q)) := by
  generalize hv : szO l q = v
  unfold szO at hv
  have hw : IntKind.i64.wrap (q - l.length) = q - l.length := wrap_i64 _ (by omega) (by omega)
  refine fn_of lv12 Try.func12 rfl rfl (by kernel_rfl) rfl ?_
  refine bsplit_intro (fun h => ?_) (fun h => ?_)
  · rw [hw] at h
    have h := of_decide_eq_true h
    rw [if_pos (by omega)] at hv
    exact ⟨⟨congrArg (Value.int .i64) hv, trivial⟩, rfl⟩
  rw [hw] at h
  have h := of_decide_eq_false h
  refine ⟨{ i : Nat // i ≤ l.length ∧ 0 ≤ q - (l.length + sumN (l.take i) : Nat) }, fun i => ⟨frL [(0, .d (owns l)), (1, di (q - (l.length + sumN (l.take i.1) : Nat))), (5, di i.1)], hpL [], 0, 0⟩, fun i => l.length - i.1, ⟨0, by omega, by simp [sumN]; omega⟩,
    le_of [] rfl rfl rfl rfl trivial (tellFr_d rfl (DLe.refl _) (tellFr_v rfl (congrArg (Value.int .i64) (hw.trans (by simp [sumN]))) (tellFr_v rfl rfl trivial))), ?_⟩
  rintro ⟨i, hi, hp⟩
  refine bsplit_intro (fun h2 => ?_) (fun h2 => ?_)
  · have h2 : i < l.length := by simp at h2; exact h2
    have e1 := sumN_take l i h2
    have e2 := sumN_le l (i + 1)
    have e3 := hs i h2
    refine ask_intro ⟨by omega, by simp; omega, rfl⟩ ?_
    refine .inl ⟨_, _, rfl, c_laws_szInt64S (l.getD i []) (q - (l.length + sumN (l.take i) : Nat)) (by omega) (by omega), rfl, ?_⟩
    refine bsplit_intro (fun h3 => ?_) (fun h3 => ?_)
    · have h3 := of_decide_eq_true h3
      refine ⟨⟨congrArg (Value.int .i64) ?_, trivial⟩, rfl⟩
      split at h3
      · rw [if_pos (by omega)] at hv; exact hv
      · omega
    · have h3 := of_decide_eq_false h3
      have h4 : ¬ q - (l.length + sumN (l.take i) : Nat) - ((l.getD i []).length : Int) < 0 := by
        intro h5
        rw [if_pos h5] at h3
        omega
      refine ⟨⟨i + 1, by omega, by omega⟩, le_of [] rfl rfl rfl rfl trivial (tellFr_d rfl (DLe.refl _) (tellFr_v rfl (congrArg (Value.int .i64) ?_) (tellFr_v rfl (congrArg (Value.int .i64) (?_ : IntKind.i64.wrap ((i : Int) + 1) = ((i + 1 : Nat) : Int))) trivial))), by show l.length - (i + 1) < l.length - i; omega⟩
      · show (if _ then _ else _) = _
        rw [if_neg h4]
        show _ = q - (l.length + sumN (l.take (i + 1)) : Nat)
        omega
      · exact wrap_i64 (i + 1) (by omega) (by omega)
  · simp at h2
    refine ⟨⟨congrArg (Value.int .i64) ?_, trivial⟩, rfl⟩
    have hh : l.take i = l := List.take_of_length_le h2
    show q - (l.length + sumN (l.take i) : Nat) = v
    rw [hh] at hp ⊢
    rw [if_neg (by omega)] at hv
    exact hv
theorem c_laws_eqInt64SS (l m : List (List Int)) (hl : l.length ≤ 9223372036854775807) (hs : ∀ i, i < l.length → (l.getD i []).length ≤ 9223372036854775807) : FnOK Try.prog 19 [.d (owns l), .d (owns m)] (rb (decide (l = m))) := by
  refine fn_of lv19 Try.func19 rfl rfl (by kernel_rfl) rfl ?_
  refine bsplit_intro (fun h => ?_) (fun h => ?_)
  · refine ⟨⟨congrArg Value.bool (?_ : false = _), trivial⟩, rfl⟩
    simp at h
    symm
    rw [decide_eq_false_iff_not]
    rintro rfl
    exact h rfl
  have hlen : l.length = m.length := by simp at h; omega
  refine ⟨{ i : Nat // i ≤ l.length ∧ decide (l.drop i = m.drop i) = decide (l = m) }, fun i => ⟨frL [(0, .d (owns l)), (1, .d (owns m)), (5, di i.1)], hpL [], 0, 0⟩, fun i => l.length - i.1, ⟨0, by simp⟩,
    le_of [] rfl rfl rfl rfl trivial (tellFr_d rfl (DLe.refl _) (tellFr_d rfl (DLe.refl _) (tellFr_v rfl rfl trivial))), ?_⟩
  rintro ⟨i, hi, hall⟩
  refine bsplit_intro (fun h => ?_) (fun h => ?_)
  · have h : i < l.length := by simp at h; exact h
    rw [drop_consG [] l i h, drop_consG [] m i (by omega)] at hall
    refine ask_intro ⟨by omega, by simp; omega, rfl⟩ ?_
    refine ask_intro ⟨by omega, by simp; omega, rfl⟩ ?_
    refine .inl ⟨_, _, rfl, c_laws_eqInt64S (l.getD i []) (m.getD i []) (hs i h), rfl, ?_⟩
    refine chk_intro (by kernel_rfl) ?_
    refine bsplit_intro (fun h2 => ?_) (fun h2 => ?_)
    · refine ⟨⟨congrArg Value.bool (?_ : false = _), trivial⟩, rfl⟩
      have h2 : ¬ l.getD i [] = m.getD i [] := by simpa only [Bool.not_eq_true', beq_eq_false_iff_ne] using h2
      rw [← hall]
      symm
      rw [decide_eq_false_iff_not]
      intro e
      exact h2 (List.cons.inj e).1
    · have h2 : l.getD i [] = m.getD i [] := by simpa only [Bool.not_eq_false', beq_iff_eq] using h2
      rw [h2] at hall
      refine ⟨⟨i + 1, by omega, by rw [← hall]; simp⟩, le_of [] rfl rfl rfl rfl trivial (tellFr_d rfl (DLe.refl _) (tellFr_d rfl (DLe.refl _) (tellFr_v rfl (congrArg (Value.int .i64) (?_ : IntKind.i64.wrap ((i : Int) + 1) = ((i + 1 : Nat) : Int))) trivial))), by show l.length - (i + 1) < l.length - i; omega⟩
      exact wrap_i64 (i + 1) (by omega) (by omega)
  · refine ⟨⟨congrArg Value.bool (?_ : true = _), trivial⟩, rfl⟩
    simp at h
    rw [← hall, List.drop_eq_nil_of_le h, List.drop_eq_nil_of_le (by omega)]; simp
/-! ## a policy -/
structure PolM where
  own : List (List Int)
  lns : List LaneM
  bls : List BellM
  pln : List SlotM
  deriving DecidableEq
abbrev polD (x : PolM) : List D := [owns x.own, lanes x.lns, bells x.bls, slots x.pln]
abbrev polLV (x : PolM) : LV := .agg [.d (owns x.own), .d (lanes x.lns), .d (bells x.bls), .d (slots x.pln)]
abbrev polR (x : PolM) : RV1 := .agg [oOwns x.own, oLanes x.lns, oBells x.bls, oSlots x.pln]
structure PolM.small (x : PolM) : Prop where
  own : x.own.length * 24 ≤ 140737488355328
  ins : ∀ i, i < x.own.length → (x.own.getD i []).length * 8 ≤ 140737488355328
  lns : x.lns.length * 40 ≤ 140737488355328
  bls : x.bls.length * 16 ≤ 140737488355328
  pln : x.pln.length * 16 ≤ 140737488355328
theorem c_laws_toPolicy (x : PolM) (hs : x.small) : FnOK Try.prog 14 [polLV x] (.r (polR x)) := by
  refine fn_of lv14 Try.func14 rfl rfl (by kernel_rfl) rfl ?_
  refine .inl ⟨_, _, rfl, c_laws_toInt64SS x.own hs.own hs.ins, rfl, ?_⟩
  refine .inl ⟨_, _, rfl, c_laws_toLaneS x.lns hs.lns, rfl, ?_⟩
  refine .inl ⟨_, _, rfl, c_laws_toBellS x.bls hs.bls, rfl, ?_⟩
  refine .inl ⟨_, _, rfl, c_laws_toSlotS x.pln hs.pln, rfl, ?_⟩
  exact ⟨⟨⟨rfl, rfl, rfl, rfl, fun i hi => ⟨rfl, fun j hj => ⟨rfl, rfl⟩⟩⟩, ⟨rfl, rfl, rfl, fun i hi => ⟨rfl, rfl⟩⟩, ⟨rfl, rfl, rfl, fun i hi => ⟨rfl, rfl⟩⟩, ⟨rfl, rfl, rfl, fun i hi => ⟨rfl, rfl⟩⟩, trivial⟩, rfl⟩
theorem c_laws_eqPolicy (x y : PolM) (hs : x.small) : FnOK Try.prog 18 [polLV x, polLV y] (rb (decide (x = y))) := by
  have h1 := hs.own
  have h2 := hs.ins
  have h3 := hs.lns
  have h4 := hs.bls
  have h5 := hs.pln
  refine fn_of lv18 Try.func18 rfl rfl (by kernel_rfl) rfl ?_
  refine .inl ⟨_, _, rfl, c_laws_eqInt64SS x.own y.own (by omega) (fun i hi => by have := h2 i hi; omega), rfl, ?_⟩
  refine bsplit_intro (fun h => ?_) (fun h => ?_)
  · refine ⟨⟨congrArg Value.bool ?_, trivial⟩, rfl⟩
    obtain ⟨a1, a2, a3, a4⟩ := x; obtain ⟨b1, b2, b3, b4⟩ := y; simp_all
  refine .inl ⟨_, _, rfl, c_laws_eqLaneS x.lns y.lns (by omega), rfl, ?_⟩
  refine bsplit_intro (fun h6 => ?_) (fun h6 => ?_)
  · refine ⟨⟨congrArg Value.bool ?_, trivial⟩, rfl⟩
    obtain ⟨a1, a2, a3, a4⟩ := x; obtain ⟨b1, b2, b3, b4⟩ := y; simp_all
  refine .inl ⟨_, _, rfl, c_laws_eqBellS x.bls y.bls (by omega), rfl, ?_⟩
  refine bsplit_intro (fun h7 => ?_) (fun h7 => ?_)
  · refine ⟨⟨congrArg Value.bool ?_, trivial⟩, rfl⟩
    obtain ⟨a1, a2, a3, a4⟩ := x; obtain ⟨b1, b2, b3, b4⟩ := y; simp_all
  refine .inl ⟨_, _, rfl, c_laws_eqSlotS x.pln y.pln (by omega), rfl, ?_⟩
  refine bsplit_intro (fun h8 => ?_) (fun h8 => ?_)
  all_goals refine ⟨⟨congrArg Value.bool ?_, trivial⟩, rfl⟩
  all_goals (obtain ⟨a1, a2, a3, a4⟩ := x; obtain ⟨b1, b2, b3, b4⟩ := y; simp_all)
/-- how many things a policy has -/
def PolM.size (x : PolM) : Nat := x.own.length + sumN x.own + x.lns.length + x.bls.length + x.pln.length
def szP (x : PolM) (q : Int) : Int := if q - (x.size : Int) < 0 then -1 else q - (x.size : Int)
theorem c_laws_szPolicy (x : PolM) (hs : x.small) (q : Int) (h0 : 0 ≤ q) (h1 : q ≤ 1048576) : FnOK Try.prog 11 [polLV x, di q] (ri (szP x q)) := by
  have h2 := hs.lns
  have h3 := hs.bls
  have h4 := hs.pln
  have hsz : x.size = x.own.length + sumN x.own + x.lns.length + x.bls.length + x.pln.length := rfl
  generalize hv : szP x q = v
  unfold szP at hv
  have c1 := c_laws_szInt64SS x.own hs.own hs.ins q h0 h1
  generalize hv1 : szO x.own q = v1 at c1
  unfold szO at hv1
  by_cases b1 : v1 < 0
  · refine fn_of lv11 Try.func11 rfl rfl (by kernel_rfl) rfl ?_
    refine .inl ⟨_, _, rfl, c1, rfl, ?_⟩
    refine bsplit_of_true (decide_eq_true b1) ?_
    refine ⟨⟨congrArg (Value.int .i64) ?_, trivial⟩, rfl⟩
    split at hv1
    · rw [if_pos (by omega)] at hv; exact hv
    · omega
  rw [if_neg (by intro e; rw [if_pos e] at hv1; omega)] at hv1
  have c2 := c_laws_szLaneS x.lns v1 (by omega) (by omega)
  generalize hv2 : (if v1 - (x.lns.length : Int) < 0 then (-1 : Int) else v1 - (x.lns.length : Int)) = v2 at c2
  by_cases b2 : v2 < 0
  · refine fn_of lv11 Try.func11 rfl rfl (by kernel_rfl) rfl ?_
    refine .inl ⟨_, _, rfl, c1, rfl, ?_⟩
    refine bsplit_of_false (decide_eq_false b1) ?_
    refine .inl ⟨_, _, rfl, c2, rfl, ?_⟩
    refine bsplit_of_true (decide_eq_true b2) ?_
    refine ⟨⟨congrArg (Value.int .i64) ?_, trivial⟩, rfl⟩
    split at hv2
    · rw [if_pos (by omega)] at hv; exact hv
    · omega
  rw [if_neg (by intro e; rw [if_pos e] at hv2; omega)] at hv2
  have c3 := c_laws_szBellS x.bls v2 (by omega) (by omega)
  generalize hv3 : (if v2 - (x.bls.length : Int) < 0 then (-1 : Int) else v2 - (x.bls.length : Int)) = v3 at c3
  by_cases b3 : v3 < 0
  · refine fn_of lv11 Try.func11 rfl rfl (by kernel_rfl) rfl ?_
    refine .inl ⟨_, _, rfl, c1, rfl, ?_⟩
    refine bsplit_of_false (decide_eq_false b1) ?_
    refine .inl ⟨_, _, rfl, c2, rfl, ?_⟩
    refine bsplit_of_false (decide_eq_false b2) ?_
    refine .inl ⟨_, _, rfl, c3, rfl, ?_⟩
    refine bsplit_of_true (decide_eq_true b3) ?_
    refine ⟨⟨congrArg (Value.int .i64) ?_, trivial⟩, rfl⟩
    split at hv3
    · rw [if_pos (by omega)] at hv; exact hv
    · omega
  rw [if_neg (by intro e; rw [if_pos e] at hv3; omega)] at hv3
  have c4 := c_laws_szSlotS x.pln v3 (by omega) (by omega)
  generalize hv4 : (if v3 - (x.pln.length : Int) < 0 then (-1 : Int) else v3 - (x.pln.length : Int)) = v4 at c4
  have hfin : v4 = v := by
    rw [← hv, ← hv4]
    by_cases e : v3 - (x.pln.length : Int) < 0
    · rw [if_pos e, if_pos (by omega)]
    · rw [if_neg e, if_neg (by omega)]; omega
  refine fn_of lv11 Try.func11 rfl rfl (by kernel_rfl) rfl ?_
  refine .inl ⟨_, _, rfl, c1, rfl, ?_⟩
  refine bsplit_of_false (decide_eq_false b1) ?_
  refine .inl ⟨_, _, rfl, c2, rfl, ?_⟩
  refine bsplit_of_false (decide_eq_false b2) ?_
  refine .inl ⟨_, _, rfl, c3, rfl, ?_⟩
  refine bsplit_of_false (decide_eq_false b3) ?_
  refine .inl ⟨_, _, rfl, c4, rfl, ?_⟩
  refine bsplit_intro (fun h => ?_) (fun h => ?_)
  · have h := of_decide_eq_true h
    refine ⟨⟨congrArg (Value.int .i64) ?_, trivial⟩, rfl⟩
    rw [← hfin]
    split at hv4
    · exact hv4
    · omega
  · exact ⟨⟨congrArg (Value.int .i64) hfin, trivial⟩, rfl⟩
end Go.Proofs.Ytojaakpnpdnbhaa.L

/- What is wrong with a policy: the small functions: contracts. -/
set_option linter.unusedVariables false
set_option linter.unusedSimpArgs false
set_option maxRecDepth 100000
namespace Go.Proofs.Ytojaakpnpdnbhaa.L
open Go.RowKit
theorem beqc (v : Int) : (fun a : Int => v == a) = fun a => a == v := funext fun a => by
  by_cases h : v = a
  · subst h; rfl
  · rw [beq_eq_false_iff_ne.2 h, beq_eq_false_iff_ne.2 (Ne.symm h)]
abbrev hasI (l : List Int) (v : Int) : Bool := l.any fun a => a == v
theorem wrap1 {i n : Nat} (h : i < n) (hn : n ≤ 4611686018427387904) : IntKind.i64.wrap ((i : Int) + 1) = ((i + 1 : Nat) : Int) := wrap_i64 (i + 1) (by omega) (by omega)
theorem c_spec_l1Has (l : List Int) (v : Int) (hl : l.length ≤ 4611686018427387904) : FnOK Try.prog 163 [.d (ints l), di v] (rb (hasI l v)) := by
  refine fn_of lv163 Try.func163 rfl rfl (by kernel_rfl) rfl ?_
  refine ⟨{ i : Nat // i ≤ l.length ∧ (l.drop i).any (fun a => a == v) = hasI l v }, fun i => ⟨frL [(0, .d (ints l)), (1, di v), (5, di i.1)], hpL [], 0, 0⟩, fun i => l.length - i.1, ⟨0, by simp⟩, le_of [] rfl rfl rfl rfl trivial (tellFr_d rfl (DLe.refl _) (tellFr_v rfl rfl (tellFr_v rfl rfl trivial))), ?_⟩
  rintro ⟨i, hi, hall⟩
  refine bsplit_intro (fun h => ?_) (fun h => ?_)
  · have h : i < l.length := by simp at h; exact h
    rw [drop_anyG 0 l _ i h] at hall
    refine ask_intro ⟨by omega, by simp; omega, rfl⟩ ?_
    refine bsplit_intro (fun h2 => ?_) (fun h2 => ?_)
    · rw [show (l.getD i 0 == v) = true from h2, Bool.true_or] at hall
      exact ⟨⟨congrArg Value.bool hall, trivial⟩, rfl⟩
    · rw [show (l.getD i 0 == v) = false from h2, Bool.false_or] at hall
      exact ⟨⟨i + 1, by omega, hall⟩, le_of [] rfl rfl rfl rfl trivial (tellFr_d rfl (DLe.refl _) (tellFr_v rfl rfl (tellFr_v rfl (congrArg (Value.int .i64) (wrap1 h hl)) trivial))), by show l.length - (i + 1) < l.length - i; omega⟩
  · simp at h
    rw [List.drop_eq_nil_of_le h] at hall
    exact ⟨⟨congrArg Value.bool hall, trivial⟩, rfl⟩
theorem c_slices_Index_int64 (l : List Int) (v : Int) (hl : l.length ≤ 4611686018427387904) : FnOK Try.prog 201 [.d (ints l), di v] (ri (idxG (fun a => v == a) l 0)) := by
  refine fn_of lv201 Try.func201 rfl rfl (by kernel_rfl) rfl ?_
  refine ⟨{ i : Nat // i ≤ l.length ∧ idxG (fun a => v == a) l i = idxG (fun a => v == a) l 0 }, fun i => ⟨frL [(0, .d (ints l)), (1, di v), (7, di l.length), (8, di i.1)], hpL [], 0, 0⟩, fun i => l.length - i.1, ⟨0, by omega, rfl⟩,
    le_of [] rfl rfl rfl rfl trivial (tellFr_d rfl (DLe.refl _) (tellFr_v rfl rfl (tellFr_v rfl rfl (tellFr_v rfl rfl trivial)))), ?_⟩
  rintro ⟨i, hi, hall⟩
  refine bsplit_intro (fun h => ?_) (fun h => ?_)
  · have h : i < l.length := by simp at h; exact h
    refine ask_intro ⟨by omega, by simp; omega, rfl⟩ ?_
    refine bsplit_intro (fun h2 => ?_) (fun h2 => ?_)
    · exact ⟨⟨congrArg (Value.int .i64) ((idxG_hit 0 h h2).symm.trans hall), trivial⟩, rfl⟩
    · exact ⟨⟨i + 1, by omega, (idxG_miss 0 h h2).symm.trans hall⟩, le_of [] rfl rfl rfl rfl trivial (tellFr_d rfl (DLe.refl _) (tellFr_v rfl rfl (tellFr_v rfl rfl (tellFr_v rfl (congrArg (Value.int .i64) (wrap1 h hl)) trivial)))), by show l.length - (i + 1) < l.length - i; omega⟩
  · simp at h
    exact ⟨⟨congrArg (Value.int .i64) ((idxG_end h).symm.trans hall), trivial⟩, rfl⟩
theorem c_slices_Contains_int64 (l : List Int) (v : Int) (hl : l.length ≤ 4611686018427387904) : FnOK Try.prog 169 [.d (ints l), di v] (rb (hasI l v)) := by
  refine fn_of lv169 Try.func169 rfl rfl (by kernel_rfl) rfl ?_
  refine .inl ⟨_, _, rfl, c_slices_Index_int64 l v hl, rfl, ?_⟩
  exact ⟨⟨congrArg Value.bool ((idxG_any l _).trans (congrArg l.any (beqc v))), trivial⟩, rfl⟩
theorem c_slices_Index_Bell (l : List BellM) (b : BellM) (hl : l.length ≤ 4611686018427387904) : FnOK Try.prog 205 [.d (bells l), bellLV b] (ri (idxG (fun a => [b.frm, b.to] == [a.frm, a.to]) l 0)) := by
  refine fn_of lv205 Try.func205 rfl rfl (by kernel_rfl) rfl ?_
  refine ⟨{ i : Nat // i ≤ l.length ∧ idxG (fun a : BellM => [b.frm, b.to] == [a.frm, a.to]) l i = idxG (fun a => [b.frm, b.to] == [a.frm, a.to]) l 0 }, fun i => ⟨frL [(0, .d (bells l)), (3, .ptr 64 0), (7, di l.length), (8, di i.1)], hpL [(64, .box 173 [di b.frm, di b.to])], 96, 0⟩, fun i => l.length - i.1, ⟨0, by omega, rfl⟩,
    le_of [(64, 0)] rfl rfl rfl rfl (tellHp_box rfl rfl ⟨rfl, rfl, trivial⟩ tellHp_nil) (tellFr_d rfl (DLe.refl _) (tellFr_ptr rfl rfl (tellFr_v rfl rfl (tellFr_v rfl rfl trivial)))), ?_⟩
  rintro ⟨i, hi, hall⟩
  refine bsplit_intro (fun h => ?_) (fun h => ?_)
  · have h : i < l.length := by simp at h; exact h
    refine ask_intro ⟨by omega, by simp; omega, rfl⟩ ?_
    refine chk_intro (by kernel_rfl) ?_
    refine bsplit_intro (fun h2 => ?_) (fun h2 => ?_)
    · exact ⟨⟨congrArg (Value.int .i64) ((idxG_hit ⟨0, 0⟩ h h2).symm.trans hall), trivial⟩, rfl⟩
    · exact ⟨⟨i + 1, by omega, (idxG_miss ⟨0, 0⟩ h h2).symm.trans hall⟩, le_of [(64, 64)] rfl rfl rfl rfl (tellHp_box rfl rfl ⟨rfl, rfl, trivial⟩ tellHp_nil) (tellFr_d rfl (DLe.refl _) (tellFr_ptr rfl rfl (tellFr_v rfl rfl (tellFr_v rfl (congrArg (Value.int .i64) (wrap1 h hl)) trivial)))), by show l.length - (i + 1) < l.length - i; omega⟩
  · simp at h
    exact ⟨⟨congrArg (Value.int .i64) ((idxG_end h).symm.trans hall), trivial⟩, rfl⟩
theorem bellBeq (b : BellM) : (fun a : BellM => [b.frm, b.to] == [a.frm, a.to]) = fun a => a == b := funext fun a => by
  by_cases h : a = b
  · subst h; simp
  · rw [beq_eq_false_iff_ne.2 h]
    refine beq_eq_false_iff_ne.2 (fun e => h ?_)
    obtain ⟨a1, a2⟩ := a; obtain ⟨b1, b2⟩ := b
    simp only [List.cons.injEq, and_true] at e
    rw [e.1, e.2]
theorem c_slices_Contains_Bell (l : List BellM) (b : BellM) (hl : l.length ≤ 4611686018427387904) : FnOK Try.prog 197 [.d (bells l), bellLV b] (rb (l.any fun a => a == b)) := by
  refine fn_of lv197 Try.func197 rfl rfl (by kernel_rfl) rfl ?_
  refine .inl ⟨_, _, rfl, c_slices_Index_Bell l b hl, rfl, ?_⟩
  exact ⟨⟨congrArg Value.bool ((idxG_any l _).trans (congrArg l.any (bellBeq b))), trivial⟩, rfl⟩
theorem c_slices_IndexFunc_Lane (g : Nat) (m : LaneM) (p : LaneM → Bool) (hg : ∀ x, FnOK Try.prog g [laneLV x, .dptr (laneD m)] (rb (p x))) (l : List LaneM) (hl : l.length ≤ 4611686018427387904) : FnOK Try.prog 177 [.d (lanes l), .fn g [.dptr (laneD m)]] (ri (idxG p l 0)) := by
  refine fn_of lv177 Try.func177 rfl rfl (by kernel_rfl) rfl ?_
  refine ⟨{ i : Nat // i ≤ l.length ∧ idxG p l i = idxG p l 0 }, fun i => ⟨frL [(0, .d (lanes l)), (1, .fn g [.dptr (laneD m)]), (7, di l.length), (8, di i.1)], hpL [], 0, 0⟩, fun i => l.length - i.1, ⟨0, by omega, rfl⟩,
    le_of [] rfl rfl rfl rfl trivial (tellFr_d rfl (DLe.refl _) (tellFr_fn rfl ⟨⟨DLe.refl _, DLe.refl _, DLe.refl _, DLe.refl _, DLe.refl _, trivial⟩, trivial⟩ (tellFr_v rfl rfl (tellFr_v rfl rfl trivial)))), ?_⟩
  rintro ⟨i, hi, hall⟩
  refine bsplit_intro (fun h => ?_) (fun h => ?_)
  · have h : i < l.length := by simp at h; exact h
    refine ask_intro ⟨by omega, by simp; omega, rfl⟩ ?_
    refine .inl ⟨_, _, rfl, hg (l.getD i ⟨0, 0, 0, 0, 0⟩), rfl, ?_⟩
    refine bsplit_intro (fun h2 => ?_) (fun h2 => ?_)
    · exact ⟨⟨congrArg (Value.int .i64) ((idxG_hit ⟨0, 0, 0, 0, 0⟩ h h2).symm.trans hall), trivial⟩, rfl⟩
    · exact ⟨⟨i + 1, by omega, (idxG_miss ⟨0, 0, 0, 0, 0⟩ h h2).symm.trans hall⟩, le_of [] rfl rfl rfl rfl trivial (tellFr_d rfl (DLe.refl _) (tellFr_fn rfl ⟨⟨DLe.refl _, DLe.refl _, DLe.refl _, DLe.refl _, DLe.refl _, trivial⟩, trivial⟩ (tellFr_v rfl rfl (tellFr_v rfl (congrArg (Value.int .i64) (wrap1 h hl)) trivial)))), by show l.length - (i + 1) < l.length - i; omega⟩
  · simp at h
    exact ⟨⟨congrArg (Value.int .i64) ((idxG_end h).symm.trans hall), trivial⟩, rfl⟩
theorem c_slices_IndexFunc_ints (g : Nat) (v : Int) (p : List Int → Bool) (l : List (List Int)) (hg : ∀ i, i < l.length → FnOK Try.prog g [.d (ints (l.getD i [])), .dptr [dI v]] (rb (p (l.getD i [])))) (hl : l.length ≤ 4611686018427387904) : FnOK Try.prog 167 [.d (owns l), .fn g [.dptr [dI v]]] (ri (idxG p l 0)) := by
  refine fn_of lv167 Try.func167 rfl rfl (by kernel_rfl) rfl ?_
  refine ⟨{ i : Nat // i ≤ l.length ∧ idxG p l i = idxG p l 0 }, fun i => ⟨frL [(0, .d (owns l)), (1, .fn g [.dptr [dI v]]), (7, di l.length), (8, di i.1)], hpL [], 0, 0⟩, fun i => l.length - i.1, ⟨0, by omega, rfl⟩,
    le_of [] rfl rfl rfl rfl trivial (tellFr_d rfl (DLe.refl _) (tellFr_fn rfl ⟨⟨DLe.refl _, trivial⟩, trivial⟩ (tellFr_v rfl rfl (tellFr_v rfl rfl trivial)))), ?_⟩
  rintro ⟨i, hi, hall⟩
  refine bsplit_intro (fun h => ?_) (fun h => ?_)
  · have h : i < l.length := by simp at h; exact h
    refine ask_intro ⟨by omega, by simp; omega, rfl⟩ ?_
    refine .inl ⟨_, _, rfl, hg i h, rfl, ?_⟩
    refine bsplit_intro (fun h2 => ?_) (fun h2 => ?_)
    · exact ⟨⟨congrArg (Value.int .i64) ((idxG_hit [] h h2).symm.trans hall), trivial⟩, rfl⟩
    · exact ⟨⟨i + 1, by omega, (idxG_miss [] h h2).symm.trans hall⟩, le_of [] rfl rfl rfl rfl trivial (tellFr_d rfl (DLe.refl _) (tellFr_fn rfl ⟨⟨DLe.refl _, trivial⟩, trivial⟩ (tellFr_v rfl rfl (tellFr_v rfl (congrArg (Value.int .i64) (wrap1 h hl)) trivial)))), by show l.length - (i + 1) < l.length - i; omega⟩
  · simp at h
    exact ⟨⟨congrArg (Value.int .i64) ((idxG_end h).symm.trans hall), trivial⟩, rfl⟩
/-! ## guests, owners, ends -/
abbrev polP (x : PolM) : LV := .dptr (polD x)
def guestB (n : Nat) (g : Int) : Bool := inR g 0 ((n : Int) - 1)
theorem wrapm {n : Nat} (hn : n ≤ 4611686018427387904) : IntKind.i64.wrap ((n : Int) - 1) = (n : Int) - 1 := wrap_i64 _ (by omega) (by omega)
theorem c_spec_l6Guest (x : PolM) (hs : x.small) (g : Int) : FnOK Try.prog 156 [polP x, di g] (rb (guestB x.own.length g)) := by
  have h := hs.own
  generalize hv : guestB x.own.length g = v
  unfold guestB at hv
  rw [← wrapm (by omega)] at hv
  refine fn_of lv156 Try.func156 rfl rfl (by kernel_rfl) rfl ?_
  refine .inl ⟨_, _, rfl, c_spec_l1In g 0 _, rfl, ?_⟩
  exact ⟨⟨congrArg Value.bool hv, trivial⟩, rfl⟩
theorem c_impl_isGuest (x : PolM) (hs : x.small) (g : Int) : FnOK Try.prog 158 [polP x, di g] (rb (guestB x.own.length g)) := by
  have h := hs.own
  generalize hv : guestB x.own.length g = v
  unfold guestB at hv
  rw [← wrapm (by omega)] at hv
  refine fn_of lv158 Try.func158 rfl rfl (by kernel_rfl) rfl ?_
  refine .inl ⟨_, _, rfl, c_impl_within g 0 _, rfl, ?_⟩
  exact ⟨⟨congrArg Value.bool hv, trivial⟩, rfl⟩
def ownerP (l : List (List Int)) (v : Int) : Int := idxG (fun r => hasI r v) l 0
theorem c_impl_owner_1 (r : List Int) (v : Int) (hr : r.length ≤ 4611686018427387904) : FnOK Try.prog 168 [.d (ints r), .dptr [dI v]] (rb (hasI r v)) := by
  refine fn_of lv168 Try.func168 rfl rfl (by kernel_rfl) rfl ?_
  refine .inl ⟨_, _, rfl, c_slices_Contains_int64 r v hr, rfl, ?_⟩
  exact ⟨⟨rfl, trivial⟩, rfl⟩
theorem c_impl_owner (x : PolM) (hs : x.small) (v : Int) : FnOK Try.prog 102 [polP x, di v] (ri (ownerP x.own v)) := by
  have h := hs.own
  have h2 := hs.ins
  refine fn_of lv102 Try.func102 rfl rfl (by kernel_rfl) rfl ?_
  refine .inl ⟨_, _, rfl, c_slices_IndexFunc_ints 168 v (fun r => hasI r v) x.own (fun i hi => c_impl_owner_1 _ v (by have := h2 i hi; omega)) (by omega), rfl, ?_⟩
  exact ⟨⟨rfl, trivial⟩, rfl⟩
theorem c_spec_l6Owner (x : PolM) (hs : x.small) (v : Int) : FnOK Try.prog 99 [polP x, di v] (ri (ownerP x.own v)) := by
  have hl := hs.own
  have h0 := hs.ins
  refine fn_of lv99 Try.func99 rfl rfl (by kernel_rfl) rfl ?_
  refine ⟨{ i : Nat // i ≤ x.own.length ∧ idxG (fun r => hasI r v) x.own i = ownerP x.own v }, fun i => ⟨frL [(0, polP x), (1, di v), (5, di i.1)], hpL [], 0, 0⟩, fun i => x.own.length - i.1, ⟨0, by omega, rfl⟩,
    le_of [] rfl rfl rfl rfl trivial (tellFr_x rfl ⟨DLe.refl _, DLe.refl _, DLe.refl _, DLe.refl _, trivial⟩ (tellFr_v rfl rfl (tellFr_v rfl rfl trivial))), ?_⟩
  rintro ⟨i, hi, hall⟩
  refine bsplit_intro (fun h => ?_) (fun h => ?_)
  · have h : i < x.own.length := by simp at h; exact h
    refine ask_intro ⟨by omega, by simp; omega, rfl⟩ ?_
    refine .inl ⟨_, _, rfl, c_spec_l1Has (x.own.getD i []) v (by have := h0 i h; omega), rfl, ?_⟩
    refine bsplit_intro (fun h2 => ?_) (fun h2 => ?_)
    · exact ⟨⟨congrArg (Value.int .i64) ((idxG_hit [] h h2).symm.trans hall), trivial⟩, rfl⟩
    · exact ⟨⟨i + 1, by omega, (idxG_miss [] h h2).symm.trans hall⟩, le_of [] rfl rfl rfl rfl trivial (tellFr_x rfl ⟨DLe.refl _, DLe.refl _, DLe.refl _, DLe.refl _, trivial⟩ (tellFr_v rfl rfl (tellFr_v rfl (congrArg (Value.int .i64) (wrap1 h (by omega))) trivial))), by show x.own.length - (i + 1) < x.own.length - i; omega⟩
  · simp at h
    exact ⟨⟨congrArg (Value.int .i64) ((idxG_end h).symm.trans hall), trivial⟩, rfl⟩
def endsF (n : Nat) (a b : Int) : Int := bif !guestB n a || !guestB n b then 4 else bif a == b then 1 else 0
theorem c_spec_l6Ends (x : PolM) (hs : x.small) (a b : Int) : FnOK Try.prog 192 [polP x, di a, di b] (ri (endsF x.own.length a b)) := by
  have c1 := c_spec_l6Guest x hs a
  have c2 := c_spec_l6Guest x hs b
  generalize hv : endsF x.own.length a b = v
  unfold endsF at hv
  refine fn_of lv192 Try.func192 rfl rfl (by kernel_rfl) rfl ?_
  refine .inl ⟨_, _, rfl, c1, rfl, ?_⟩
  repeat' (first | refine bsplit_true ?_ | refine bsplit_false ?_ | refine .inl ⟨_, _, rfl, c2, rfl, ?_⟩ | refine bsplit_intro (fun h => ?_) (fun h => ?_))
  all_goals refine ⟨⟨congrArg (Value.int .i64) ?_, trivial⟩, rfl⟩
  all_goals simp_all
theorem c_impl_linkFault (x : PolM) (hs : x.small) (a b : Int) : FnOK Try.prog 194 [polP x, di a, di b] (ri (endsF x.own.length a b)) := by
  have c1 := c_impl_isGuest x hs a
  have c2 := c_impl_isGuest x hs b
  generalize hv : endsF x.own.length a b = v
  unfold endsF at hv
  refine fn_of lv194 Try.func194 rfl rfl (by kernel_rfl) rfl ?_
  refine .inl ⟨_, _, rfl, c1, rfl, ?_⟩
  repeat' (first | refine bsplit_true ?_ | refine bsplit_false ?_ | refine .inl ⟨_, _, rfl, c2, rfl, ?_⟩ | refine bsplit_intro (fun h => ?_) (fun h => ?_))
  all_goals refine ⟨⟨congrArg (Value.int .i64) ?_, trivial⟩, rfl⟩
  all_goals simp_all
end Go.Proofs.Ytojaakpnpdnbhaa.L

/- What is wrong with a policy: lanes, bells, the plan: contracts. -/
set_option linter.unusedVariables false
set_option linter.unusedSimpArgs false
set_option maxRecDepth 100000
namespace Go.Proofs.Ytojaakpnpdnbhaa.L
open Go.RowKit
def sitsB (l : LaneM) (g p : Int) : Bool := (l.frm == g && l.af == p) || (l.to == g && l.at_ == p)
theorem c_spec_l6At (l : LaneM) (g p : Int) : FnOK Try.prog 193 [laneLV l, di g, di p] (rb (sitsB l g p)) := by
  generalize hv : sitsB l g p = v
  unfold sitsB at hv
  refine fn_of lv193 Try.func193 rfl rfl (by kernel_rfl) rfl ?_
  repeat' (first | refine bsplit_true ?_ | refine bsplit_false ?_ | refine bsplit_intro (fun h => ?_) (fun h => ?_))
  all_goals refine ⟨⟨congrArg Value.bool ?_, trivial⟩, rfl⟩
  all_goals simp_all
theorem c_impl_sits (l : LaneM) (g p : Int) : FnOK Try.prog 196 [laneLV l, di g, di p] (rb (sitsB l g p)) := by
  generalize hv : sitsB l g p = v
  unfold sitsB at hv
  refine fn_of lv196 Try.func196 rfl rfl (by kernel_rfl) rfl ?_
  repeat' (first | refine bsplit_true ?_ | refine bsplit_false ?_ | refine bsplit_intro (fun h => ?_) (fun h => ?_))
  all_goals refine ⟨⟨congrArg Value.bool ?_, trivial⟩, rfl⟩
  all_goals simp_all
def clash (m x : LaneM) : Bool := x.page == m.page || (sitsB x m.frm m.af || sitsB x m.to m.at_)
theorem c_impl_laneFault_1 (m x : LaneM) : FnOK Try.prog 195 [laneLV x, .dptr (laneD m)] (rb (clash m x)) := by
  have c1 := c_impl_sits x m.frm m.af
  have c2 := c_impl_sits x m.to m.at_
  generalize hv : clash m x = v
  unfold clash at hv
  refine fn_of lv195 Try.func195 rfl rfl (by kernel_rfl) rfl ?_
  repeat' (first | refine bsplit_true ?_ | refine bsplit_false ?_ | refine .inl ⟨_, _, rfl, c1, rfl, ?_⟩ | refine .inl ⟨_, _, rfl, c2, rfl, ?_⟩ | refine bsplit_intro (fun h => ?_) (fun h => ?_))
  all_goals refine ⟨⟨congrArg Value.bool ?_, trivial⟩, rfl⟩
  all_goals simp_all
theorem c_slices_ContainsFunc_Lane (m : LaneM) (l : List LaneM) (hl : l.length ≤ 4611686018427387904) : FnOK Try.prog 114 [.d (lanes l), .fn 195 [.dptr (laneD m)]] (rb (l.any (clash m))) := by
  refine fn_of lv114 Try.func114 rfl rfl (by kernel_rfl) rfl ?_
  refine .inl ⟨_, _, rfl, c_slices_IndexFunc_Lane 195 m (clash m) (c_impl_laneFault_1 m) l hl, rfl, ?_⟩
  exact ⟨⟨congrArg Value.bool (idxG_any l _), trivial⟩, rfl⟩
def laneBad (own : List (List Int)) (m : LaneM) (ahead : List LaneM) : Int := if endsF own.length m.frm m.to = 0 then (bif !inR m.page 0 23 || (!inR m.af 5 6 || !inR m.at_ 5 6) then 3 else bif decide (ownerP own m.page ≥ 0) || ahead.any (clash m) then 6 else 0) else endsF own.length m.frm m.to
theorem c_impl_laneFault (x : PolM) (hs : x.small) (m : LaneM) (ahead : List LaneM) (hl : ahead.length ≤ 4611686018427387904) : FnOK Try.prog 150 [polP x, laneLV m, .d (lanes ahead)] (ri (laneBad x.own m ahead)) := by
  have c1 := c_impl_linkFault x hs m.frm m.to
  have c2 := c_impl_within m.page 0 23
  have c3 := c_impl_within m.af 5 6
  have c4 := c_impl_within m.at_ 5 6
  have c5 := c_impl_owner x hs m.page
  have c6 := c_slices_ContainsFunc_Lane m ahead hl
  generalize hv : laneBad x.own m ahead = v
  unfold laneBad at hv
  generalize endsF x.own.length m.frm m.to = e at *
  generalize ownerP x.own m.page = o at *
  refine fn_of lv150 Try.func150 rfl rfl (by kernel_rfl) rfl ?_
  refine .inl ⟨_, _, rfl, c1, rfl, ?_⟩
  refine bsplit_intro (fun h => ?_) (fun h => ?_)
  · rw [if_neg (by simpa using h)] at hv
    exact ⟨⟨congrArg (Value.int .i64) hv, trivial⟩, rfl⟩
  rw [if_pos (by simpa using h)] at hv
  refine .inl ⟨_, _, rfl, c2, rfl, ?_⟩
  repeat' (first | refine bsplit_true ?_ | refine bsplit_false ?_ | refine .inl ⟨_, _, rfl, c3, rfl, ?_⟩ | refine .inl ⟨_, _, rfl, c4, rfl, ?_⟩ | refine .inl ⟨_, _, rfl, c5, rfl, ?_⟩ | refine .inl ⟨_, _, rfl, c6, rfl, ?_⟩ | refine bsplit_intro (fun h => ?_) (fun h => ?_))
  all_goals refine ⟨⟨congrArg (Value.int .i64) ?_, trivial⟩, rfl⟩
  all_goals simp_all
def bellBad (n : Nat) (b : BellM) (ahead : List BellM) : Int := if endsF n b.frm b.to = 0 then (bif ahead.any (fun a => a == b) then 6 else 0) else endsF n b.frm b.to
theorem c_impl_bellFault (x : PolM) (hs : x.small) (b : BellM) (ahead : List BellM) (hl : ahead.length ≤ 4611686018427387904) : FnOK Try.prog 151 [polP x, bellLV b, .d (bells ahead)] (ri (bellBad x.own.length b ahead)) := by
  have c1 := c_impl_linkFault x hs b.frm b.to
  have c2 := c_slices_Contains_Bell ahead b hl
  generalize hv : bellBad x.own.length b ahead = v
  unfold bellBad at hv
  generalize endsF x.own.length b.frm b.to = e at *
  refine fn_of lv151 Try.func151 rfl rfl (by kernel_rfl) rfl ?_
  refine .inl ⟨_, _, rfl, c1, rfl, ?_⟩
  refine bsplit_intro (fun h => ?_) (fun h => ?_)
  · rw [if_neg (by simpa using h)] at hv
    exact ⟨⟨congrArg (Value.int .i64) hv, trivial⟩, rfl⟩
  rw [if_pos (by simpa using h)] at hv
  refine .inl ⟨_, _, rfl, c2, rfl, ?_⟩
  refine bsplit_intro (fun h => ?_) (fun h => ?_)
  all_goals refine ⟨⟨congrArg (Value.int .i64) ?_, trivial⟩, rfl⟩
  all_goals simp_all
def slotBad (n : Nat) (s : SlotM) : Int := bif !guestB n s.guest then 4 else bif !inR s.steps 1 50 then 3 else 0
def planBad (n : Nat) (l : List SlotM) : Int := bif !inR l.length 1 8 then 2 else firstNZ (l.map (slotBad n))
theorem c_impl_planFault (x : PolM) (hs : x.small) : FnOK Try.prog 152 [polP x] (ri (planBad x.own.length x.pln)) := by
  have hl := hs.pln
  generalize hv : planBad x.own.length x.pln = v
  unfold planBad at hv
  refine fn_of lv152 Try.func152 rfl rfl (by kernel_rfl) rfl ?_
  refine .inl ⟨_, _, rfl, c_impl_within (x.pln.length : Int) 1 8, rfl, ?_⟩
  refine bsplit_intro (fun h => ?_) (fun h => ?_)
  · rw [show (!inR (x.pln.length : Int) 1 8) = true from h, cond_true] at hv
    exact ⟨⟨congrArg (Value.int .i64) hv, trivial⟩, rfl⟩
  rw [show (!inR (x.pln.length : Int) 1 8) = false from h, cond_false] at hv
  refine ⟨{ i : Nat // i ≤ x.pln.length ∧ firstNZ ((x.pln.drop i).map (slotBad x.own.length)) = v }, fun i => ⟨frL [(0, polP x), (15, .d (slots x.pln)), (16, di x.pln.length), (17, di i.1)], hpL [], 0, 0⟩, fun i => x.pln.length - i.1, ⟨0, by omega, hv⟩,
    le_of [] rfl rfl rfl rfl trivial (tellFr_x rfl ⟨DLe.refl _, DLe.refl _, DLe.refl _, DLe.refl _, trivial⟩ (tellFr_d rfl (DLe.refl _) (tellFr_v rfl rfl (tellFr_v rfl rfl trivial)))), ?_⟩
  rintro ⟨i, hi, hall⟩
  by_cases h1 : i < x.pln.length
  · rw [map_drop ⟨0, 0⟩ _ _ _ h1] at hall
    refine bsplit_of_true (decide_eq_true (by show (i : Int) < (x.pln.length : Int); omega)) ?_
    refine ask_intro ⟨by omega, by simp; omega, rfl⟩ ?_
    refine .inl ⟨_, _, rfl, c_impl_isGuest x hs (x.pln.getD i ⟨0, 0⟩).guest, rfl, ?_⟩
    refine bsplit_intro (fun h2 => ?_) (fun h2 => ?_)
    · have e : slotBad x.own.length (x.pln.getD i ⟨0, 0⟩) = 4 := by
        unfold slotBad
        rw [show (!guestB x.own.length (x.pln.getD i ⟨0, 0⟩).guest) = true from h2]; rfl
      rw [e] at hall
      exact ⟨⟨congrArg (Value.int .i64) hall, trivial⟩, rfl⟩
    refine .inl ⟨_, _, rfl, c_impl_within (x.pln.getD i ⟨0, 0⟩).steps 1 50, rfl, ?_⟩
    refine bsplit_intro (fun h3 => ?_) (fun h3 => ?_)
    · have e : slotBad x.own.length (x.pln.getD i ⟨0, 0⟩) = 3 := by
        unfold slotBad
        rw [show (!guestB x.own.length (x.pln.getD i ⟨0, 0⟩).guest) = false from h2, show (!inR (x.pln.getD i ⟨0, 0⟩).steps 1 50) = true from h3]; rfl
      rw [e] at hall
      exact ⟨⟨congrArg (Value.int .i64) hall, trivial⟩, rfl⟩
    have e : slotBad x.own.length (x.pln.getD i ⟨0, 0⟩) = 0 := by
      unfold slotBad
      rw [show (!guestB x.own.length (x.pln.getD i ⟨0, 0⟩).guest) = false from h2, show (!inR (x.pln.getD i ⟨0, 0⟩).steps 1 50) = false from h3]; rfl
    rw [e] at hall
    exact ⟨⟨i + 1, by omega, hall⟩, le_of [] rfl rfl rfl rfl trivial (tellFr_x rfl ⟨DLe.refl _, DLe.refl _, DLe.refl _, DLe.refl _, trivial⟩ (tellFr_d rfl (DLe.refl _) (tellFr_v rfl rfl (tellFr_v rfl (congrArg (Value.int .i64) (wrap1 h1 (by omega))) trivial)))), by show x.pln.length - (i + 1) < x.pln.length - i; omega⟩
  · rw [List.drop_eq_nil_of_le (by omega)] at hall
    refine bsplit_of_false (decide_eq_false (by show ¬ (i : Int) < (x.pln.length : Int); omega)) ?_
    exact ⟨⟨congrArg (Value.int .i64) hall, trivial⟩, rfl⟩
end Go.Proofs.Ytojaakpnpdnbhaa.L

/- What is wrong with a policy: what is owned, the whole: contracts of the program. -/
set_option linter.unusedVariables false
set_option linter.unusedSimpArgs false
set_option maxRecDepth 100000
namespace Go.Proofs.Ytojaakpnpdnbhaa.L
open Go.RowKit
theorem mapT : MapT Try.prog 207 := by
  have h : (Try.prog.info? 4).bind (fun i => i.zero) = some (.bool false) := by kernel_rfl
  cases hi : Try.prog.info? 4 with
  | none => rw [hi] at h; simp at h
  | some i =>
    rw [hi] at h
    exact ⟨2, 4, i, by kernel_rfl, by kernel_rfl, hi, by simpa using h⟩
abbrev in23 (a : Int) : Bool := inR a 0 23
def rowBad (r : List Int) : Int := bif !inR r.length 1 5 then 2 else bif !r.all in23 then 3 else 0
def dupS : List Int → List Int → Bool
  | _, [] => false
  | S, x :: r => hasI S x || dupS (S ++ [x]) r
def ownBad (l : List (List Int)) : Int := bif !inR l.length 1 3 then 2 else if firstNZ (l.map rowBad) = 0 then (bif dupS [] l.flatten then 6 else 0) else firstNZ (l.map rowBad)
theorem flat_drop (l : List (List Int)) (i : Nat) (h : i < l.length) : (l.drop i).flatten = l.getD i [] ++ (l.drop (i + 1)).flatten := by
  rw [drop_consG [] l i h, List.flatten_cons]
theorem dup_step (S : List Int) (r : List Int) (k : Nat) (h : k < r.length) (rest : List Int) : dupS S (r.drop k ++ rest) = (hasI S (r.getD k 0) || dupS (S ++ [r.getD k 0]) (r.drop (k + 1) ++ rest)) := by
  rw [drop_consG 0 r k h]; rfl
theorem hasI_snoc (S : List Int) (x n : Int) : (if n = x then true else hasI S n) = hasI (S ++ [x]) n := by
  simp only [hasI, List.any_append, List.any_cons, List.any_nil, Bool.or_false]
  by_cases h : n = x
  · subst h; simp
  · rw [if_neg h, beq_eq_false_iff_ne.2 (Ne.symm h), Bool.or_false]
theorem c_impl_ownFault (x : PolM) (hs : x.small) : FnOK Try.prog 149 [polP x] (ri (ownBad x.own)) := by
  have hl := hs.own
  have h0 := hs.ins
  generalize hv : ownBad x.own = v
  unfold ownBad at hv
  generalize hc : firstNZ (x.own.map rowBad) = c at hv
  generalize hd : dupS [] x.own.flatten = d at hv
  refine fn_of lv149 Try.func149 rfl rfl (by kernel_rfl) rfl ?_
  refine .inl ⟨_, _, rfl, c_impl_within (x.own.length : Int) 1 3, rfl, ?_⟩
  refine bsplit_intro (fun h => ?_) (fun h => ?_)
  · rw [show (!inR (x.own.length : Int) 1 3) = true from h, cond_true] at hv
    exact ⟨⟨congrArg (Value.int .i64) hv, trivial⟩, rfl⟩
  rw [show (!inR (x.own.length : Int) 1 3) = false from h, cond_false] at hv
  refine ask_intro trivial ?_
  refine ⟨{ p : Nat × List Int × Bool // p.1 ≤ x.own.length ∧ firstNZ ((x.own.drop p.1).map rowBad) = c ∧ (p.2.2 || dupS p.2.1 (x.own.drop p.1).flatten) = d },
    fun p => ⟨frL [(3, .mp 64), (4, dv (.bool p.1.2.2)), (20, .d (owns x.own)), (21, di x.own.length), (22, di p.1.1)], hpL [(64, .map 207 (fun n => hasI p.1.2.1 n))], 96, 0⟩, fun p => x.own.length - p.1.1, ⟨(0, [], false), by omega, hc, hd⟩,
    le_of [(64, 8192)] rfl rfl rfl rfl (tellHp_map rfl rfl (fun n => rfl) tellHp_nil) (tellFr_mp rfl rfl (tellFr_v rfl rfl (tellFr_d rfl (DLe.refl _) (tellFr_v rfl rfl (tellFr_v rfl rfl trivial))))), ?_⟩
  rintro ⟨⟨i, S, tw⟩, hi, hall, hdup⟩
  simp only at hi hall hdup
  by_cases h1 : i < x.own.length
  · rw [map_drop [] _ _ _ h1] at hall
    rw [flat_drop _ _ h1] at hdup
    have hrl := h0 i h1
    generalize hb : rowBad (x.own.getD i []) = b at hall
    unfold rowBad at hb
    refine bsplit_of_true (decide_eq_true (by show (i : Int) < (x.own.length : Int); omega)) ?_
    refine ask_intro ⟨by omega, by simp; omega, rfl⟩ ?_
    refine .inl ⟨_, _, rfl, c_impl_within ((x.own.getD i []).length : Int) 1 5, rfl, ?_⟩
    refine bsplit_intro (fun h2 => ?_) (fun h2 => ?_)
    · rw [show (!inR ((x.own.getD i []).length : Int) 1 5) = true from h2, cond_true] at hb
      subst hb
      have hall : (2 : Int) = c := hall
      rw [if_neg (by omega), ← hall] at hv
      exact ⟨⟨congrArg (Value.int .i64) hv, trivial⟩, rfl⟩
    rw [show (!inR ((x.own.getD i []).length : Int) 1 5) = false from h2, cond_false] at hb
    refine ⟨{ p : Nat × List Int × Bool // p.1 ≤ (x.own.getD i []).length ∧ ((x.own.getD i []).drop p.1).all in23 = (x.own.getD i []).all in23 ∧ (p.2.2 || dupS p.2.1 ((x.own.getD i []).drop p.1 ++ (x.own.drop (i + 1)).flatten)) = d },
      fun p => ⟨frL [(3, .mp 64), (4, dv (.bool p.1.2.2)), (20, .d (owns x.own)), (21, di x.own.length), (22, di i), (30, .d (ints (x.own.getD i []))), (31, di (x.own.getD i []).length), (32, di p.1.1)], hpL [(64, .map 207 (fun n => hasI p.1.2.1 n))], 96, 0⟩, fun p => (x.own.getD i []).length - p.1.1, ⟨(0, S, tw), by omega, by simp, hdup⟩,
      le_of [(64, 64)] rfl rfl rfl rfl (tellHp_map rfl rfl (fun n => rfl) tellHp_nil) (tellFr_mp rfl rfl (tellFr_v rfl rfl (tellFr_d rfl (DLe.refl _) (tellFr_v rfl rfl (tellFr_v rfl rfl (tellFr_d rfl (DLe.refl _) (tellFr_v rfl rfl (tellFr_v rfl rfl trivial)))))))), ?_⟩
    rintro ⟨⟨k, S2, tw2⟩, hk, hall2, hdup2⟩
    simp only at hk hall2 hdup2
    by_cases h3 : k < (x.own.getD i []).length
    · rw [drop_all _ in23 k h3] at hall2
      rw [dup_step S2 _ k h3] at hdup2
      refine bsplit_of_true (decide_eq_true (by show (k : Int) < ((x.own.getD i []).length : Int); omega)) ?_
      refine ask_intro ⟨by omega, by show (k : Int) < ((x.own.getD i []).length : Int); omega, rfl⟩ ?_
      refine .inl ⟨_, _, rfl, c_impl_within ((x.own.getD i []).getD k 0) 0 23, rfl, ?_⟩
      refine bsplit_intro (fun h4 => ?_) (fun h4 => ?_)
      · have h4 : in23 ((x.own.getD i []).getD k 0) = false := by simpa using h4
        rw [h4, Bool.false_and] at hall2
        rw [← hall2] at hb
        subst hb
        have hall : (3 : Int) = c := hall
        rw [if_neg (by omega), ← hall] at hv
        exact ⟨⟨congrArg (Value.int .i64) hv, trivial⟩, rfl⟩
      have h4 : in23 ((x.own.getD i []).getD k 0) = true := by simpa using h4
      rw [h4, Bool.true_and] at hall2
      refine bsplit_intro (fun h5 => ?_) (fun h5 => ?_)
      · have h5 : tw2 = true := h5
        rw [h5, Bool.true_or] at hdup2
        repeat' (first | refine bsplit_true ?_ | refine bsplit_false ?_)
        refine ask_intro mapT ?_
        refine ⟨⟨(k + 1, S2 ++ [(x.own.getD i []).getD k 0], true), by show k + 1 ≤ _; omega, hall2, by simp only [Bool.true_or]; exact hdup2⟩, le_of [(64, 64)] rfl rfl rfl rfl (tellHp_map rfl rfl (fun n => hasI_snoc S2 _ n) tellHp_nil) (tellFr_mp rfl rfl (tellFr_v rfl rfl (tellFr_d rfl (DLe.refl _) (tellFr_v rfl rfl (tellFr_v rfl rfl (tellFr_d rfl (DLe.refl _) (tellFr_v rfl rfl (tellFr_v rfl (congrArg (Value.int .i64) (wrap1 h3 (by omega))) trivial)))))))), by show (x.own.getD i []).length - (k + 1) < (x.own.getD i []).length - k; omega⟩
      · have h5 : tw2 = false := h5
        rw [h5, Bool.false_or] at hdup2
        repeat' (first | refine bsplit_true ?_ | refine bsplit_false ?_)
        refine ask_intro mapT ?_
        repeat' (first | refine bsplit_true ?_ | refine bsplit_false ?_)
        refine ask_intro mapT ?_
        refine ⟨⟨(k + 1, S2 ++ [(x.own.getD i []).getD k 0], hasI S2 ((x.own.getD i []).getD k 0)), by show k + 1 ≤ _; omega, hall2, hdup2⟩, le_of [(64, 64)] rfl rfl rfl rfl (tellHp_map rfl rfl (fun n => hasI_snoc S2 _ n) tellHp_nil) (tellFr_mp rfl rfl (tellFr_v rfl rfl (tellFr_d rfl (DLe.refl _) (tellFr_v rfl rfl (tellFr_v rfl rfl (tellFr_d rfl (DLe.refl _) (tellFr_v rfl rfl (tellFr_v rfl (congrArg (Value.int .i64) (wrap1 h3 (by omega))) trivial)))))))), by show (x.own.getD i []).length - (k + 1) < (x.own.getD i []).length - k; omega⟩
    · rw [List.drop_eq_nil_of_le (by omega)] at hall2 hdup2
      have hall2 : true = (x.own.getD i []).all in23 := hall2
      rw [← hall2] at hb
      subst hb
      have hall : firstNZ ((x.own.drop (i + 1)).map rowBad) = c := hall
      refine bsplit_of_false (decide_eq_false (by show ¬ (k : Int) < ((x.own.getD i []).length : Int); omega)) ?_
      refine ⟨⟨(i + 1, S2, tw2), by show i + 1 ≤ _; omega, hall, hdup2⟩, le_of [(64, 64)] rfl rfl rfl rfl (tellHp_map rfl rfl (fun n => rfl) tellHp_nil) (tellFr_mp rfl rfl (tellFr_v rfl rfl (tellFr_d rfl (DLe.refl _) (tellFr_v rfl rfl (tellFr_v rfl (congrArg (Value.int .i64) (wrap1 h1 (by omega))) trivial))))), by show x.own.length - (i + 1) < x.own.length - i; omega⟩
  · rw [List.drop_eq_nil_of_le (by omega)] at hall hdup
    have hall : 0 = c := hall
    have hdup : (tw || false) = d := hdup
    rw [Bool.or_false] at hdup
    rw [if_pos hall.symm] at hv
    refine bsplit_of_false (decide_eq_false (by show ¬ (i : Int) < (x.own.length : Int); omega)) ?_
    refine bsplit_intro (fun h2 => ?_) (fun h2 => ?_)
    · have h2 : tw = true := h2
      rw [← hdup, h2] at hv
      exact ⟨⟨congrArg (Value.int .i64) hv, trivial⟩, rfl⟩
    · have h2 : tw = false := h2
      rw [← hdup, h2] at hv
      exact ⟨⟨congrArg (Value.int .i64) hv, trivial⟩, rfl⟩
def lanesBad (own : List (List Int)) : List LaneM → List LaneM → Int
  | _, [] => 0
  | ahead, m :: r => if laneBad own m ahead = 0 then lanesBad own (ahead ++ [m]) r else laneBad own m ahead
def bellsBad (n : Nat) : List BellM → List BellM → Int
  | _, [] => 0
  | ahead, m :: r => if bellBad n m ahead = 0 then bellsBad n (ahead ++ [m]) r else bellBad n m ahead
def polFault (x : PolM) : Int := if ownBad x.own = 0 then (bif decide (x.lns.length > 4) || decide (x.bls.length > 4) then 2 else if lanesBad x.own [] x.lns = 0 then (if bellsBad x.own.length [] x.bls = 0 then planBad x.own.length x.pln else bellsBad x.own.length [] x.bls) else lanesBad x.own [] x.lns) else ownBad x.own
theorem take_snoc {α : Type} (d : α) (l : List α) (i : Nat) (h : i < l.length) : l.take (i + 1) = l.take i ++ [l.getD i d] := by
  rw [List.take_succ_eq_append_getElem h, getD_at d h]
theorem lanes_step (own : List (List Int)) (l : List LaneM) (i : Nat) (h : i < l.length) : lanesBad own (l.take i) (l.drop i) = if laneBad own (l.getD i ⟨0, 0, 0, 0, 0⟩) (l.take i) = 0 then lanesBad own (l.take (i + 1)) (l.drop (i + 1)) else laneBad own (l.getD i ⟨0, 0, 0, 0, 0⟩) (l.take i) := by
  rw [take_snoc ⟨0, 0, 0, 0, 0⟩ l i h, drop_consG ⟨0, 0, 0, 0, 0⟩ l i h]; rfl
theorem bells_step (n : Nat) (l : List BellM) (i : Nat) (h : i < l.length) : bellsBad n (l.take i) (l.drop i) = if bellBad n (l.getD i ⟨0, 0⟩) (l.take i) = 0 then bellsBad n (l.take (i + 1)) (l.drop (i + 1)) else bellBad n (l.getD i ⟨0, 0⟩) (l.take i) := by
  rw [take_snoc ⟨0, 0⟩ l i h, drop_consG ⟨0, 0⟩ l i h]; rfl
theorem cut_lanes (l : List LaneM) (i : Nat) (h : i ≤ l.length) : LVLe (.d (.l ((i : Int) - 0).toNat (cutF none 0 (lanesF l)))) (.d (lanes (l.take i))) := LVLe.d (DLe.l (by simp; omega) (fun j hj => by
  have hj : j < i := by simpa using hj
  show laneD (l.getD j _) = laneD ((l.take i).getD j _)
  simp [List.getD, List.getElem?_take, hj]))
theorem cut_bells (l : List BellM) (i : Nat) (h : i ≤ l.length) : LVLe (.d (.l ((i : Int) - 0).toNat (cutF none 0 (bellsF l)))) (.d (bells (l.take i))) := LVLe.d (DLe.l (by simp; omega) (fun j hj => by
  have hj : j < i := by simpa using hj
  show bellD (l.getD j _) = bellD ((l.take i).getD j _)
  simp [List.getD, List.getElem?_take, hj]))
theorem c_impl_PolicyFault (x : PolM) (hs : x.small) : FnOK Try.prog 82 [polLV x] (ri (polFault x)) := by
  have hl := hs.lns
  have hb := hs.bls
  have c1 := c_impl_ownFault x hs
  have c2 := c_impl_planFault x hs
  generalize hv : polFault x = v
  unfold polFault at hv
  generalize ownBad x.own = e at *
  generalize planBad x.own.length x.pln = pb at *
  refine fn_of lv82 Try.func82 rfl rfl (by kernel_rfl) rfl ?_
  refine .inl ⟨_, _, rfl, c1, rfl, ?_⟩
  refine bsplit_intro (fun h => ?_) (fun h => ?_)
  · rw [if_neg (by simpa using h)] at hv
    exact ⟨⟨congrArg (Value.int .i64) hv, trivial⟩, rfl⟩
  rw [if_pos (by simpa using h)] at hv
  refine bsplit_intro (fun h1 => ?_) (fun h1 => ?_)
  · repeat' (first | refine bsplit_true ?_ | refine bsplit_false ?_)
    have h1 : decide ((x.lns.length : Int) > 4) = true := h1
    rw [show decide (x.lns.length > 4) = true from decide_eq_true (by have := of_decide_eq_true h1; omega), Bool.true_or, cond_true] at hv
    exact ⟨⟨congrArg (Value.int .i64) hv, trivial⟩, rfl⟩
  have h1 : decide ((x.lns.length : Int) > 4) = false := h1
  rw [show decide (x.lns.length > 4) = false from decide_eq_false (by have := of_decide_eq_false h1; omega), Bool.false_or] at hv
  repeat' (first | refine bsplit_true ?_ | refine bsplit_false ?_)
  refine bsplit_intro (fun h2 => ?_) (fun h2 => ?_)
  · have h2 : decide ((x.bls.length : Int) > 4) = true := h2
    rw [show decide (x.bls.length > 4) = true from decide_eq_true (by have := of_decide_eq_true h2; omega), cond_true] at hv
    exact ⟨⟨congrArg (Value.int .i64) hv, trivial⟩, rfl⟩
  have h2 : decide ((x.bls.length : Int) > 4) = false := h2
  rw [show decide (x.bls.length > 4) = false from decide_eq_false (by have := of_decide_eq_false h2; omega), cond_false] at hv
  generalize hlc : lanesBad x.own [] x.lns = lc at hv
  generalize hbc : bellsBad x.own.length [] x.bls = bc at hv
  refine ⟨{ i : Nat // i ≤ x.lns.length ∧ lanesBad x.own (x.lns.take i) (x.lns.drop i) = lc }, fun i => ⟨frL [(1, .ptr 64 0), (25, .d (lanes x.lns)), (26, di x.lns.length), (27, di i.1)], hpL [(64, .box 38 [.d (owns x.own), .d (lanes x.lns), .d (bells x.bls), .d (slots x.pln)])], 96, 0⟩, fun i => x.lns.length - i.1, ⟨0, by omega, hlc⟩,
    le_of [(64, 0)] rfl rfl rfl rfl (tellHp_box rfl rfl ⟨DLe.refl _, DLe.refl _, DLe.refl _, DLe.refl _, trivial⟩ tellHp_nil) (tellFr_ptr rfl rfl (tellFr_d rfl (DLe.refl _) (tellFr_v rfl rfl (tellFr_v rfl rfl trivial)))), ?_⟩
  rintro ⟨i, hi, hall⟩
  by_cases h3 : i < x.lns.length
  · rw [lanes_step _ _ _ h3] at hall
    have c3 := (c_impl_laneFault x hs (x.lns.getD i ⟨0, 0, 0, 0, 0⟩) (x.lns.take i) (by rw [List.length_take]; omega)).weak (xs := [polP x, laneLV (x.lns.getD i ⟨0, 0, 0, 0, 0⟩), .d (.l ((i : Int) - 0).toNat (cutF none 0 (lanesF x.lns)))]) ⟨LVLe.refl _, LVLe.refl _, cut_lanes x.lns i hi, trivial⟩
    generalize laneBad x.own (x.lns.getD i ⟨0, 0, 0, 0, 0⟩) (x.lns.take i) = lb at hall c3
    refine bsplit_of_true (decide_eq_true (by show (i : Int) < (x.lns.length : Int); omega)) ?_
    refine ask_intro ⟨by omega, by show (i : Int) < (x.lns.length : Int); omega, rfl⟩ ?_
    refine ask_intro ⟨by omega, by show (0 : Int) ≤ i; omega, by show (i : Int) ≤ (x.lns.length : Int); omega, .inl rfl⟩ ?_
    refine .inl ⟨_, _, rfl, c3, rfl, ?_⟩
    refine chk_intro (by kernel_rfl) ?_
    refine bsplit_intro (fun h4 => ?_) (fun h4 => ?_)
    · have h4 : ¬ lb = 0 := by simpa using h4
      rw [if_neg h4] at hall
      rw [if_neg (by omega), ← hall] at hv
      exact ⟨⟨congrArg (Value.int .i64) hv, trivial⟩, rfl⟩
    · have h4 : lb = 0 := by simpa using h4
      rw [if_pos h4] at hall
      refine ⟨⟨i + 1, by omega, hall⟩, le_of [(64, 64)] rfl rfl rfl rfl (tellHp_box rfl rfl ⟨DLe.refl _, DLe.refl _, DLe.refl _, DLe.refl _, trivial⟩ tellHp_nil) (tellFr_ptr rfl rfl (tellFr_d rfl (DLe.refl _) (tellFr_v rfl rfl (tellFr_v rfl (congrArg (Value.int .i64) (wrap1 h3 (by omega))) trivial)))), by show x.lns.length - (i + 1) < x.lns.length - i; omega⟩
  rw [List.drop_eq_nil_of_le (by omega)] at hall
  have hall : 0 = lc := hall
  rw [if_pos hall.symm] at hv
  refine bsplit_of_false (decide_eq_false (by show ¬ (i : Int) < (x.lns.length : Int); omega)) ?_
  refine ⟨{ i : Nat // i ≤ x.bls.length ∧ bellsBad x.own.length (x.bls.take i) (x.bls.drop i) = bc }, fun i => ⟨frL [(1, .ptr 64 0), (43, .d (bells x.bls)), (44, di x.bls.length), (45, di i.1)], hpL [(64, .box 38 [.d (owns x.own), .d (lanes x.lns), .d (bells x.bls), .d (slots x.pln)])], 96, 0⟩, fun i => x.bls.length - i.1, ⟨0, by omega, hbc⟩,
    le_of [(64, 64)] rfl rfl rfl rfl (tellHp_box rfl rfl ⟨DLe.refl _, DLe.refl _, DLe.refl _, DLe.refl _, trivial⟩ tellHp_nil) (tellFr_ptr rfl rfl (tellFr_d rfl (DLe.refl _) (tellFr_v rfl rfl (tellFr_v rfl rfl trivial)))), ?_⟩
  rintro ⟨k, hk, hall2⟩
  by_cases h3 : k < x.bls.length
  · rw [bells_step _ _ _ h3] at hall2
    have c3 := (c_impl_bellFault x hs (x.bls.getD k ⟨0, 0⟩) (x.bls.take k) (by rw [List.length_take]; omega)).weak (xs := [polP x, bellLV (x.bls.getD k ⟨0, 0⟩), .d (.l ((k : Int) - 0).toNat (cutF none 0 (bellsF x.bls)))]) ⟨LVLe.refl _, LVLe.refl _, cut_bells x.bls k hk, trivial⟩
    generalize bellBad x.own.length (x.bls.getD k ⟨0, 0⟩) (x.bls.take k) = lb at hall2 c3
    refine bsplit_of_true (decide_eq_true (by show (k : Int) < (x.bls.length : Int); omega)) ?_
    refine ask_intro ⟨by omega, by show (k : Int) < (x.bls.length : Int); omega, rfl⟩ ?_
    refine ask_intro ⟨by omega, by show (0 : Int) ≤ k; omega, by show (k : Int) ≤ (x.bls.length : Int); omega, .inl rfl⟩ ?_
    refine .inl ⟨_, _, rfl, c3, rfl, ?_⟩
    refine chk_intro (by kernel_rfl) ?_
    refine bsplit_intro (fun h4 => ?_) (fun h4 => ?_)
    · have h4 : ¬ lb = 0 := by simpa using h4
      rw [if_neg h4] at hall2
      rw [if_neg (by omega), ← hall2] at hv
      exact ⟨⟨congrArg (Value.int .i64) hv, trivial⟩, rfl⟩
    · have h4 : lb = 0 := by simpa using h4
      rw [if_pos h4] at hall2
      refine ⟨⟨k + 1, by omega, hall2⟩, le_of [(64, 64)] rfl rfl rfl rfl (tellHp_box rfl rfl ⟨DLe.refl _, DLe.refl _, DLe.refl _, DLe.refl _, trivial⟩ tellHp_nil) (tellFr_ptr rfl rfl (tellFr_d rfl (DLe.refl _) (tellFr_v rfl rfl (tellFr_v rfl (congrArg (Value.int .i64) (wrap1 h3 (by omega))) trivial)))), by show x.bls.length - (k + 1) < x.bls.length - k; omega⟩
  rw [List.drop_eq_nil_of_le (by omega)] at hall2
  have hall2 : 0 = bc := hall2
  rw [if_pos hall2.symm] at hv
  refine bsplit_of_false (decide_eq_false (by show ¬ (k : Int) < (x.bls.length : Int); omega)) ?_
  refine .inl ⟨_, _, rfl, c2, rfl, ?_⟩
  exact ⟨⟨congrArg (Value.int .i64) hv, trivial⟩, rfl⟩
end Go.Proofs.Ytojaakpnpdnbhaa.L

/- What is wrong with a policy: the reference's contracts. -/
set_option linter.unusedVariables false
set_option linter.unusedSimpArgs false
set_option maxRecDepth 100000
namespace Go.Proofs.Ytojaakpnpdnbhaa.L
open Go.RowKit
theorem firstNZ_all : ∀ {l : List Int}, firstNZ l = 0 → ∀ x ∈ l, x = 0
  | [], _, x, hx => by simp at hx
  | a :: l, h, x, hx => by
    simp only [firstNZ] at h
    split at h
    · rename_i ha
      rcases List.mem_cons.1 hx with rfl | hx
      · exact ha
      · exact firstNZ_all h x hx
    · rename_i ha; exact absurd h ha
theorem row_len {l : List (List Int)} (h : firstNZ (l.map rowBad) = 0) {i : Nat} (hi : i < l.length) : (l.getD i []).length ≤ 5 := by
  have h1 := firstNZ_all h (rowBad (l.getD i [])) (List.mem_map.2 ⟨_, by rw [getD_at _ hi]; exact List.getElem_mem hi, rfl⟩)
  unfold rowBad at h1
  cases hq : inR ((l.getD i []).length : Int) 1 5 with
  | true => have := (inR_iff.1 hq).2; omega
  | false => rw [hq] at h1; simp at h1
theorem upto_snoc (S : List Int) (x : Int) (g : Nat → List D) (hg : g 0 = [.v (.int .i64 x)]) (q : Nat) (hq : q < S.length + 1) : upto S.length (intsF S) g q = intsF (S ++ [x]) q := by
  unfold upto
  by_cases h : q < S.length
  · rw [if_pos h]
    show [D.v (.int .i64 (S.getD q 0))] = [D.v (.int .i64 ((S ++ [x]).getD q 0))]
    have : (S ++ [x]).getD q 0 = S.getD q 0 := by simp [List.getD, List.getElem?_append_left h]
    rw [this]
  · obtain rfl : q = S.length := by omega
    rw [if_neg h, Nat.sub_self, hg]
    show _ = [D.v (.int .i64 ((S ++ [x]).getD S.length 0))]
    have : (S ++ [x]).getD S.length 0 = x := by simp [List.getD]
    rw [this]
theorem c_spec_l6Owns (x : PolM) (hs : x.small) : FnOK Try.prog 142 [polP x] (ri (ownBad x.own)) := by
  have hl := hs.own
  have h0 := hs.ins
  have hr5 := @row_len x.own
  generalize hv : ownBad x.own = v
  unfold ownBad at hv
  generalize hc : firstNZ (x.own.map rowBad) = c at hv hr5
  generalize hd : dupS [] x.own.flatten = d at hv
  refine fn_of lv142 Try.func142 rfl rfl (by kernel_rfl) rfl ?_
  refine bsplit_intro (fun h => ?_) (fun h => ?_)
  · repeat' (first | refine bsplit_true ?_ | refine bsplit_false ?_)
    have h : decide ((x.own.length : Int) < 1) = true := h
    rw [show inR (x.own.length : Int) 1 3 = false from by unfold inR; have := of_decide_eq_true h; simp; omega] at hv
    exact ⟨⟨congrArg (Value.int .i64) hv, trivial⟩, rfl⟩
  repeat' (first | refine bsplit_true ?_ | refine bsplit_false ?_)
  refine bsplit_intro (fun h2 => ?_) (fun h2 => ?_)
  · have h2 : decide ((x.own.length : Int) > 3) = true := h2
    rw [show inR (x.own.length : Int) 1 3 = false from by unfold inR; have := of_decide_eq_true h2; simp; omega] at hv
    exact ⟨⟨congrArg (Value.int .i64) hv, trivial⟩, rfl⟩
  have hn1 : ¬ (x.own.length : Int) < 1 := of_decide_eq_false h
  have hn2 : ¬ (x.own.length : Int) > 3 := of_decide_eq_false h2
  rw [show inR (x.own.length : Int) 1 3 = true from inR_iff.2 ⟨by omega, by omega⟩] at hv
  have hv : (if c = 0 then (bif d then 6 else 0) else c) = v := hv
  refine ⟨{ i : Nat // i ≤ x.own.length ∧ firstNZ ((x.own.drop i).map rowBad) = c }, fun i => ⟨frL [(0, polP x), (3, di i.1)], hpL [], 96, 0⟩, fun i => x.own.length - i.1, ⟨0, by omega, hc⟩,
    le_of [] rfl rfl rfl rfl trivial (tellFr_x rfl ⟨DLe.refl _, DLe.refl _, DLe.refl _, DLe.refl _, trivial⟩ (tellFr_v rfl rfl trivial)), ?_⟩
  rintro ⟨i, hi, hall⟩
  by_cases h1 : i < x.own.length
  · rw [map_drop [] _ _ _ h1] at hall
    have hrl := h0 i h1
    generalize hb : rowBad (x.own.getD i []) = b at hall
    unfold rowBad at hb
    refine bsplit_of_true (decide_eq_true (by show (i : Int) < (x.own.length : Int); omega)) ?_
    refine ask_intro ⟨by omega, by show (i : Int) < (x.own.length : Int); omega, rfl⟩ ?_
    refine bsplit_intro (fun h3 => ?_) (fun h3 => ?_)
    · repeat' (first | refine bsplit_true ?_ | refine bsplit_false ?_)
      have h3 : decide (((x.own.getD i []).length : Int) < 1) = true := h3
      rw [show inR ((x.own.getD i []).length : Int) 1 5 = false from by unfold inR; have := of_decide_eq_true h3; simp only [Bool.and_eq_false_imp, decide_eq_true_eq, decide_eq_false_iff_not]; omega] at hb
      have hb : (2 : Int) = b := hb
      subst hb
      have hall : (2 : Int) = c := hall
      rw [if_neg (by omega), ← hall] at hv
      exact ⟨⟨congrArg (Value.int .i64) hv, trivial⟩, rfl⟩
    repeat' (first | refine bsplit_true ?_ | refine bsplit_false ?_)
    refine ask_intro ⟨by omega, by show (i : Int) < (x.own.length : Int); omega, rfl⟩ ?_
    repeat' (first | refine bsplit_true ?_ | refine bsplit_false ?_)
    refine bsplit_intro (fun h4 => ?_) (fun h4 => ?_)
    · have h4 : decide (((x.own.getD i []).length : Int) > 5) = true := h4
      rw [show inR ((x.own.getD i []).length : Int) 1 5 = false from by unfold inR; have := of_decide_eq_true h4; simp only [Bool.and_eq_false_imp, decide_eq_true_eq, decide_eq_false_iff_not]; omega] at hb
      have hb : (2 : Int) = b := hb
      subst hb
      have hall : (2 : Int) = c := hall
      rw [if_neg (by omega), ← hall] at hv
      exact ⟨⟨congrArg (Value.int .i64) hv, trivial⟩, rfl⟩
    have hm1 : ¬ ((x.own.getD i []).length : Int) < 1 := of_decide_eq_false h3
    have hm2 : ¬ ((x.own.getD i []).length : Int) > 5 := of_decide_eq_false h4
    rw [show inR ((x.own.getD i []).length : Int) 1 5 = true from inR_iff.2 ⟨by omega, by omega⟩] at hb
    have hb : (bif !(x.own.getD i []).all in23 then (3 : Int) else 0) = b := hb
    refine ⟨{ k : Nat // k ≤ (x.own.getD i []).length ∧ ((x.own.getD i []).drop k).all in23 = (x.own.getD i []).all in23 }, fun k => ⟨frL [(0, polP x), (3, di i), (4, di k.1)], hpL [], 96, 0⟩, fun k => (x.own.getD i []).length - k.1, ⟨0, by omega, by rw [List.drop_zero]⟩,
      le_of [] rfl rfl rfl rfl trivial (tellFr_x rfl ⟨DLe.refl _, DLe.refl _, DLe.refl _, DLe.refl _, trivial⟩ (tellFr_v rfl rfl (tellFr_v rfl rfl trivial))), ?_⟩
    rintro ⟨k, hk, hall2⟩
    refine ask_intro ⟨by omega, by show (i : Int) < (x.own.length : Int); omega, rfl⟩ ?_
    by_cases h5 : k < (x.own.getD i []).length
    · rw [drop_all _ in23 k h5] at hall2
      refine bsplit_of_true (decide_eq_true (by show (k : Int) < ((x.own.getD i []).length : Int); omega)) ?_
      refine ask_intro ⟨by omega, by show (i : Int) < (x.own.length : Int); omega, rfl⟩ ?_
      refine ask_intro ⟨by omega, by show (k : Int) < ((x.own.getD i []).length : Int); omega, rfl⟩ ?_
      refine .inl ⟨_, _, rfl, c_spec_l1In ((x.own.getD i []).getD k 0) 0 23, rfl, ?_⟩
      refine bsplit_intro (fun h6 => ?_) (fun h6 => ?_)
      · have h6 : in23 ((x.own.getD i []).getD k 0) = false := by simpa using h6
        rw [h6, Bool.false_and] at hall2
        rw [← hall2] at hb
        have hb : (3 : Int) = b := hb
        subst hb
        have hall : (3 : Int) = c := hall
        rw [if_neg (by omega), ← hall] at hv
        exact ⟨⟨congrArg (Value.int .i64) hv, trivial⟩, rfl⟩
      have h6 : in23 ((x.own.getD i []).getD k 0) = true := by simpa using h6
      rw [h6, Bool.true_and] at hall2
      exact ⟨⟨k + 1, by omega, hall2⟩, le_of [] rfl rfl rfl rfl trivial (tellFr_x rfl ⟨DLe.refl _, DLe.refl _, DLe.refl _, DLe.refl _, trivial⟩ (tellFr_v rfl rfl (tellFr_v rfl (congrArg (Value.int .i64) (wrap1 h5 (by omega))) trivial))), by show (x.own.getD i []).length - (k + 1) < (x.own.getD i []).length - k; omega⟩
    · rw [List.drop_eq_nil_of_le (by omega)] at hall2
      have hall2 : true = (x.own.getD i []).all in23 := hall2
      rw [← hall2] at hb
      have hb : (0 : Int) = b := hb
      subst hb
      have hall : firstNZ ((x.own.drop (i + 1)).map rowBad) = c := hall
      refine bsplit_of_false (decide_eq_false (by show ¬ (k : Int) < ((x.own.getD i []).length : Int); omega)) ?_
      exact ⟨⟨i + 1, by omega, hall⟩, le_of [] rfl rfl rfl rfl trivial (tellFr_x rfl ⟨DLe.refl _, DLe.refl _, DLe.refl _, DLe.refl _, trivial⟩ (tellFr_v rfl (congrArg (Value.int .i64) (wrap1 h1 (by omega))) trivial)), by show x.own.length - (i + 1) < x.own.length - i; omega⟩
  rw [List.drop_eq_nil_of_le (by omega)] at hall
  have hall : 0 = c := hall
  rw [if_pos hall.symm] at hv
  have hr6 := fun j => @hr5 hall.symm j
  refine bsplit_of_false (decide_eq_false (by show ¬ (i : Int) < (x.own.length : Int); omega)) ?_
  refine ⟨{ p : Nat × List Int // p.1 ≤ x.own.length ∧ p.2.length ≤ 5 * p.1 ∧ dupS p.2 (x.own.drop p.1).flatten = d },
    fun p => ⟨frL [(0, polP x), (5, .row 64), (6, di p.1.1)], hpL [(64, .row 2 1 p.1.2.length (intsF p.1.2))], 96, 0⟩, fun p => x.own.length - p.1.1, ⟨(0, []), by omega, by simp, hd⟩,
    le_of [(64, 4192)] rfl rfl rfl rfl (tellHp_row rfl rfl rfl (fun j hj => absurd hj (Nat.not_lt_zero _)) tellHp_nil) (tellFr_x rfl ⟨DLe.refl _, DLe.refl _, DLe.refl _, DLe.refl _, trivial⟩ (tellFr_row rfl rfl (tellFr_v rfl rfl trivial))), ?_⟩
  rintro ⟨⟨j, S⟩, hj, hSl, hdup⟩
  simp only at hj hSl hdup
  by_cases h1 : j < x.own.length
  · rw [flat_drop _ _ h1] at hdup
    have hrl := hr6 j h1
    refine bsplit_of_true (decide_eq_true (by show (j : Int) < (x.own.length : Int); omega)) ?_
    refine ⟨{ p : Nat × List Int // p.1 ≤ (x.own.getD j []).length ∧ p.2.length ≤ 5 * j + p.1 ∧ dupS p.2 ((x.own.getD j []).drop p.1 ++ (x.own.drop (j + 1)).flatten) = d },
      fun p => ⟨frL [(0, polP x), (5, .row 64), (6, di j), (7, di p.1.1)], hpL [(64, .row 2 1 p.1.2.length (intsF p.1.2))], 96, 0⟩, fun p => (x.own.getD j []).length - p.1.1, ⟨(0, S), by omega, by show S.length ≤ 5 * j + 0; omega, hdup⟩,
      le_of [(64, 64)] rfl rfl rfl rfl (tellHp_row rfl rfl rfl (fun j hj => rfl) tellHp_nil) (tellFr_x rfl ⟨DLe.refl _, DLe.refl _, DLe.refl _, DLe.refl _, trivial⟩ (tellFr_row rfl rfl (tellFr_v rfl rfl (tellFr_v rfl rfl trivial)))), ?_⟩
    rintro ⟨⟨k, S2⟩, hk, hSl2, hdup2⟩
    simp only at hk hSl2 hdup2
    refine ask_intro ⟨by omega, by show (j : Int) < (x.own.length : Int); omega, rfl⟩ ?_
    by_cases h5 : k < (x.own.getD j []).length
    · rw [dup_step S2 _ k h5] at hdup2
      refine bsplit_of_true (decide_eq_true (by show (k : Int) < ((x.own.getD j []).length : Int); omega)) ?_
      refine ask_intro ⟨by omega, by show (j : Int) < (x.own.length : Int); omega, rfl⟩ ?_
      refine ask_intro ⟨by omega, by show (k : Int) < ((x.own.getD j []).length : Int); omega, rfl⟩ ?_
      refine .inl ⟨_, _, rfl, c_spec_l1Has S2 ((x.own.getD j []).getD k 0) (by omega), rfl, ?_⟩
      refine bsplit_intro (fun h6 => ?_) (fun h6 => ?_)
      · have h6 : hasI S2 ((x.own.getD j []).getD k 0) = true := h6
        rw [h6, Bool.true_or] at hdup2
        rw [← hdup2] at hv
        exact ⟨⟨congrArg (Value.int .i64) hv, trivial⟩, rfl⟩
      have h6 : hasI S2 ((x.own.getD j []).getD k 0) = false := h6
      rw [h6, Bool.false_or] at hdup2
      refine ask_intro ⟨by omega, by show (j : Int) < (x.own.length : Int); omega, rfl⟩ ?_
      refine ask_intro ⟨by omega, by show (k : Int) < ((x.own.getD j []).length : Int); omega, rfl⟩ ?_
      refine ask_intro ⟨by show (S2.length + 1) * 8 ≤ _; omega, by show S2.length + 1 ≤ 9223372036854775807; omega, fun q hq => ?_⟩ ?_
      · obtain rfl : q = 0 := by omega
        rfl
      refine ⟨⟨(k + 1, S2 ++ [(x.own.getD j []).getD k 0]), by show k + 1 ≤ _; omega, by simp; omega, hdup2⟩, le_of [(64, 8672)] rfl rfl rfl rfl (tellHp_row rfl rfl (show S2.length + 1 = (S2 ++ [_]).length by simp) (fun q hq => ?_) tellHp_nil) (tellFr_x rfl ⟨DLe.refl _, DLe.refl _, DLe.refl _, DLe.refl _, trivial⟩ (tellFr_row rfl rfl (tellFr_v rfl rfl (tellFr_v rfl (congrArg (Value.int .i64) (wrap1 h5 (by omega))) trivial)))), by show (x.own.getD j []).length - (k + 1) < (x.own.getD j []).length - k; omega⟩
      exact upto_snoc S2 _ _ rfl q hq
    · rw [List.drop_eq_nil_of_le (by omega)] at hdup2
      refine bsplit_of_false (decide_eq_false (by show ¬ (k : Int) < ((x.own.getD j []).length : Int); omega)) ?_
      refine ⟨⟨(j + 1, S2), by show j + 1 ≤ _; omega, by show S2.length ≤ 5 * (j + 1); omega, hdup2⟩, le_of [(64, 64)] rfl rfl rfl rfl (tellHp_row rfl rfl rfl (fun j hj => rfl) tellHp_nil) (tellFr_x rfl ⟨DLe.refl _, DLe.refl _, DLe.refl _, DLe.refl _, trivial⟩ (tellFr_row rfl rfl (tellFr_v rfl (congrArg (Value.int .i64) (wrap1 h1 (by omega))) trivial))), by show x.own.length - (j + 1) < x.own.length - j; omega⟩
  rw [List.drop_eq_nil_of_le (by omega)] at hdup
  have hdup : false = d := hdup
  rw [← hdup] at hv
  refine bsplit_of_false (decide_eq_false (by show ¬ (j : Int) < (x.own.length : Int); omega)) ?_
  exact ⟨⟨congrArg (Value.int .i64) hv, trivial⟩, rfl⟩
end Go.Proofs.Ytojaakpnpdnbhaa.L

/- What is wrong with a policy: the reference's contracts on lanes, bells and the plan. -/
set_option linter.unusedVariables false
set_option linter.unusedSimpArgs false
set_option maxRecDepth 100000
namespace Go.Proofs.Ytojaakpnpdnbhaa.L
open Go.RowKit
def lanesFault (x : PolM) : Int := bif decide (x.lns.length > 4) || decide (x.bls.length > 4) then 2 else lanesBad x.own [] x.lns
theorem getD_take {α : Type} (d : α) (l : List α) (i k : Nat) (h : k < i) : (l.take i).getD k d = l.getD k d := by simp [List.getD, List.getElem?_take, h]
set_option maxHeartbeats 1600000 in
theorem c_spec_l6Lanes (x : PolM) (hs : x.small) : FnOK Try.prog 143 [polP x] (ri (lanesFault x)) := by
  have hl := hs.lns
  generalize hv : lanesFault x = v
  unfold lanesFault at hv
  refine fn_of lv143 Try.func143 rfl rfl (by kernel_rfl) rfl ?_
  refine bsplit_intro (fun h1 => ?_) (fun h1 => ?_)
  · repeat' (first | refine bsplit_true ?_ | refine bsplit_false ?_)
    have h1 : decide ((x.lns.length : Int) > 4) = true := h1
    rw [show decide (x.lns.length > 4) = true from decide_eq_true (by have := of_decide_eq_true h1; omega), Bool.true_or, cond_true] at hv
    exact ⟨⟨congrArg (Value.int .i64) hv, trivial⟩, rfl⟩
  have h1 : decide ((x.lns.length : Int) > 4) = false := h1
  rw [show decide (x.lns.length > 4) = false from decide_eq_false (by have := of_decide_eq_false h1; omega), Bool.false_or] at hv
  repeat' (first | refine bsplit_true ?_ | refine bsplit_false ?_)
  refine bsplit_intro (fun h2 => ?_) (fun h2 => ?_)
  · have h2 : decide ((x.bls.length : Int) > 4) = true := h2
    rw [show decide (x.bls.length > 4) = true from decide_eq_true (by have := of_decide_eq_true h2; omega), cond_true] at hv
    exact ⟨⟨congrArg (Value.int .i64) hv, trivial⟩, rfl⟩
  have h2 : decide ((x.bls.length : Int) > 4) = false := h2
  rw [show decide (x.bls.length > 4) = false from decide_eq_false (by have := of_decide_eq_false h2; omega), cond_false] at hv
  refine ⟨{ i : Nat // i ≤ x.lns.length ∧ lanesBad x.own (x.lns.take i) (x.lns.drop i) = v }, fun i => ⟨frL [(0, polP x), (3, di i.1)], hpL [], 96, 0⟩, fun i => x.lns.length - i.1, ⟨0, by omega, hv⟩,
    le_of [] rfl rfl rfl rfl trivial (tellFr_x rfl ⟨DLe.refl _, DLe.refl _, DLe.refl _, DLe.refl _, trivial⟩ (tellFr_v rfl rfl trivial)), ?_⟩
  rintro ⟨i, hi, hall⟩
  by_cases h3 : i < x.lns.length
  rotate_left
  · rw [List.drop_eq_nil_of_le (by omega)] at hall
    refine bsplit_of_false (decide_eq_false (by show ¬ (i : Int) < (x.lns.length : Int); omega)) ?_
    exact ⟨⟨congrArg (Value.int .i64) hall, trivial⟩, rfl⟩
  rw [lanes_step _ _ _ h3] at hall
  have e9 : (x.lns.getD i ⟨0, 0, 0, 0, 0⟩) = x.lns.getD (i : Int).toNat ⟨0, 0, 0, 0, 0⟩ := rfl
  obtain ⟨m, hm⟩ : ∃ m, m = x.lns.getD i ⟨0, 0, 0, 0, 0⟩ := ⟨_, rfl⟩
  have c1 := c_spec_l6Ends x hs (x.lns.getD i ⟨0, 0, 0, 0, 0⟩).frm (x.lns.getD i ⟨0, 0, 0, 0, 0⟩).to
  have c2 := c_spec_l1In (x.lns.getD i ⟨0, 0, 0, 0, 0⟩).page 0 23
  have c3 := c_spec_l1In (x.lns.getD i ⟨0, 0, 0, 0, 0⟩).af 5 6
  have c4 := c_spec_l1In (x.lns.getD i ⟨0, 0, 0, 0, 0⟩).at_ 5 6
  have c5 := c_spec_l6Owner x hs (x.lns.getD i ⟨0, 0, 0, 0, 0⟩).page
  obtain ⟨b, hb⟩ : ∃ b, b = laneBad x.own (x.lns.getD i ⟨0, 0, 0, 0, 0⟩) (x.lns.take i) := ⟨_, rfl⟩
  rw [← hb] at hall
  unfold laneBad at hb
  generalize endsF x.own.length (x.lns.getD i ⟨0, 0, 0, 0, 0⟩).frm (x.lns.getD i ⟨0, 0, 0, 0, 0⟩).to = e at hb c1
  generalize inR (x.lns.getD i ⟨0, 0, 0, 0, 0⟩).page 0 23 = p1 at hb c2
  generalize inR (x.lns.getD i ⟨0, 0, 0, 0, 0⟩).af 5 6 = p2 at hb c3
  generalize inR (x.lns.getD i ⟨0, 0, 0, 0, 0⟩).at_ 5 6 = p3 at hb c4
  generalize ownerP x.own (x.lns.getD i ⟨0, 0, 0, 0, 0⟩).page = ow at hb c5
  have stop : ∀ r : Int, b = r → r ≠ 0 → r = v := fun r e1 e2 => by rw [e1, if_neg e2] at hall; exact hall
  refine bsplit_of_true (decide_eq_true (by show (i : Int) < (x.lns.length : Int); omega)) ?_
  refine ask_intro ⟨by omega, by show (i : Int) < (x.lns.length : Int); omega, rfl⟩ ?_
  refine .inl ⟨_, _, rfl, c1, rfl, ?_⟩
  refine bsplit_intro (fun h4 => ?_) (fun h4 => ?_)
  · have h4 : ¬ e = 0 := by simpa using h4
    rw [if_neg h4] at hb
    exact ⟨⟨congrArg (Value.int .i64) (stop e hb h4), trivial⟩, rfl⟩
  have h4 : e = 0 := by simpa using h4
  rw [if_pos h4] at hb
  by_cases hbad : (!p1 || (!p2 || !p3)) = true
  · rw [hbad, cond_true] at hb
    have h3v := stop 3 hb (by decide)
    refine .inl ⟨_, _, rfl, c2, rfl, ?_⟩
    repeat' (first | refine bsplit_true ?_ | refine bsplit_false ?_ | refine .inl ⟨_, _, rfl, c3, rfl, ?_⟩ | refine .inl ⟨_, _, rfl, c4, rfl, ?_⟩ | refine bsplit_intro (fun h => ?_) (fun h => ?_))
    all_goals first
      | exact ⟨⟨congrArg (Value.int .i64) h3v, trivial⟩, rfl⟩
      | (exfalso; clear hall hb c1 c2 c3 c4 c5; simp_all; done)
  have hbad : (!p1 || (!p2 || !p3)) = false := by simpa using hbad
  rw [hbad, cond_false] at hb
  obtain ⟨rfl, rfl, rfl⟩ : p1 = true ∧ p2 = true ∧ p3 = true := by cases p1 <;> cases p2 <;> cases p3 <;> simp_all
  refine .inl ⟨_, _, rfl, c2, rfl, ?_⟩
  repeat' (first | refine bsplit_true ?_ | refine bsplit_false ?_)
  refine .inl ⟨_, _, rfl, c3, rfl, ?_⟩
  repeat' (first | refine bsplit_true ?_ | refine bsplit_false ?_)
  refine .inl ⟨_, _, rfl, c4, rfl, ?_⟩
  repeat' (first | refine bsplit_true ?_ | refine bsplit_false ?_)
  refine .inl ⟨_, _, rfl, c5, rfl, ?_⟩
  refine bsplit_intro (fun h5 => ?_) (fun h5 => ?_)
  · have h5 : decide (ow ≥ 0) = true := h5
    rw [h5, Bool.true_or] at hb
    exact ⟨⟨congrArg (Value.int .i64) (stop 6 hb (by decide)), trivial⟩, rfl⟩
  have h5 : decide (ow ≥ 0) = false := h5
  rw [h5, Bool.false_or] at hb
  have hlt : (x.lns.take i).length = i := by rw [List.length_take]; omega
  refine ⟨{ k : Nat // k ≤ i ∧ ((x.lns.take i).drop k).any (clash (x.lns.getD i ⟨0, 0, 0, 0, 0⟩)) = (x.lns.take i).any (clash (x.lns.getD i ⟨0, 0, 0, 0, 0⟩)) },
    fun k => ⟨frL [(0, polP x), (3, di i), (4, .ptr 64 0), (6, di k.1)], hpL [(64, .box 146 [di (x.lns.getD i ⟨0, 0, 0, 0, 0⟩).frm, di (x.lns.getD i ⟨0, 0, 0, 0, 0⟩).to, di (x.lns.getD i ⟨0, 0, 0, 0, 0⟩).page, di (x.lns.getD i ⟨0, 0, 0, 0, 0⟩).af, di (x.lns.getD i ⟨0, 0, 0, 0, 0⟩).at_])], 96, 0⟩, fun k => i - k.1, ⟨0, by omega, by rw [List.drop_zero]⟩,
    le_of [(64, 4416)] rfl rfl rfl rfl (tellHp_box rfl rfl ⟨rfl, rfl, rfl, rfl, rfl, trivial⟩ tellHp_nil) (tellFr_x rfl ⟨DLe.refl _, DLe.refl _, DLe.refl _, DLe.refl _, trivial⟩ (tellFr_v rfl rfl (tellFr_ptr rfl rfl (tellFr_v rfl rfl trivial)))), ?_⟩
  rintro ⟨k, hk, hall2⟩
  by_cases h6 : k < i
  rotate_left
  · rw [List.drop_eq_nil_of_le (by omega)] at hall2
    rw [← hall2] at hb
    have hb : b = 0 := hb
    rw [if_pos hb] at hall
    refine bsplit_of_false (decide_eq_false (by show ¬ (k : Int) < (i : Int); omega)) ?_
    exact ⟨⟨i + 1, by omega, hall⟩, le_of [] rfl rfl rfl rfl trivial (tellFr_x rfl ⟨DLe.refl _, DLe.refl _, DLe.refl _, DLe.refl _, trivial⟩ (tellFr_v rfl (congrArg (Value.int .i64) (wrap1 h3 (by omega))) trivial)), by show x.lns.length - (i + 1) < x.lns.length - i; omega⟩
  rw [drop_anyG ⟨0, 0, 0, 0, 0⟩ _ _ k (by omega), getD_take _ _ _ _ h6] at hall2
  have d1 := c_spec_l6At (x.lns.getD k ⟨0, 0, 0, 0, 0⟩) (x.lns.getD i ⟨0, 0, 0, 0, 0⟩).frm (x.lns.getD i ⟨0, 0, 0, 0, 0⟩).af
  have d2 := c_spec_l6At (x.lns.getD k ⟨0, 0, 0, 0, 0⟩) (x.lns.getD i ⟨0, 0, 0, 0, 0⟩).to (x.lns.getD i ⟨0, 0, 0, 0, 0⟩).at_
  obtain ⟨q, hq⟩ : ∃ q, q = clash (x.lns.getD i ⟨0, 0, 0, 0, 0⟩) (x.lns.getD k ⟨0, 0, 0, 0, 0⟩) := ⟨_, rfl⟩
  rw [← hq] at hall2
  unfold clash at hq
  generalize sitsB (x.lns.getD k ⟨0, 0, 0, 0, 0⟩) (x.lns.getD i ⟨0, 0, 0, 0, 0⟩).frm (x.lns.getD i ⟨0, 0, 0, 0, 0⟩).af = s1 at hq d1
  generalize sitsB (x.lns.getD k ⟨0, 0, 0, 0, 0⟩) (x.lns.getD i ⟨0, 0, 0, 0, 0⟩).to (x.lns.getD i ⟨0, 0, 0, 0, 0⟩).at_ = s2 at hq d2
  have hit : q = true → 6 = v := fun e => by
    rw [e, Bool.true_or] at hall2
    rw [← hall2] at hb
    exact stop 6 hb (by decide)
  refine bsplit_of_true (decide_eq_true (by show (k : Int) < (i : Int); omega)) ?_
  refine ask_intro ⟨by omega, by show (k : Int) < (x.lns.length : Int); omega, rfl⟩ ?_
  cases q with
  | true =>
    have h6v := hit rfl
    repeat' (first | refine bsplit_true ?_ | refine bsplit_false ?_ | refine .inl ⟨_, _, rfl, d1, rfl, ?_⟩ | refine .inl ⟨_, _, rfl, d2, rfl, ?_⟩ | refine bsplit_intro (fun h => ?_) (fun h => ?_))
    all_goals first
      | exact ⟨⟨congrArg (Value.int .i64) h6v, trivial⟩, rfl⟩
      | (exfalso; clear hall hall2 hb hit c1 c2 c3 c4 c5 d1 d2; simp_all; done)
  | false =>
    rw [Bool.false_or] at hall2
    have hq := hq.symm
    rw [Bool.or_eq_false_iff, Bool.or_eq_false_iff] at hq
    obtain ⟨g1, rfl, rfl⟩ := hq
    refine bsplit_of_false g1 ?_
    repeat' (first | refine bsplit_true ?_ | refine bsplit_false ?_)
    refine .inl ⟨_, _, rfl, d1, rfl, ?_⟩
    repeat' (first | refine bsplit_true ?_ | refine bsplit_false ?_)
    refine .inl ⟨_, _, rfl, d2, rfl, ?_⟩
    repeat' (first | refine bsplit_true ?_ | refine bsplit_false ?_)
    exact ⟨⟨k + 1, by omega, hall2⟩, le_of [(64, 64)] rfl rfl rfl rfl (tellHp_box rfl rfl ⟨rfl, rfl, rfl, rfl, rfl, trivial⟩ tellHp_nil) (tellFr_x rfl ⟨DLe.refl _, DLe.refl _, DLe.refl _, DLe.refl _, trivial⟩ (tellFr_v rfl rfl (tellFr_ptr rfl rfl (tellFr_v rfl (congrArg (Value.int .i64) (wrap1 (Nat.lt_trans h6 h3) (by omega))) trivial)))), by show i - (k + 1) < i - k; omega⟩
end Go.Proofs.Ytojaakpnpdnbhaa.L

/- What is wrong with a policy: the reference's contracts, the whole. -/
set_option linter.unusedVariables false
set_option linter.unusedSimpArgs false
set_option maxRecDepth 100000
namespace Go.Proofs.Ytojaakpnpdnbhaa.L
open Go.RowKit
def restFault (x : PolM) : Int := if bellsBad x.own.length [] x.bls = 0 then planBad x.own.length x.pln else bellsBad x.own.length [] x.bls
set_option maxHeartbeats 1600000 in
theorem c_spec_l6Rest (x : PolM) (hs : x.small) : FnOK Try.prog 144 [polP x] (ri (restFault x)) := by
  have hl := hs.bls
  have hpl := hs.pln
  generalize hv : restFault x = v
  unfold restFault planBad at hv
  generalize hbc : bellsBad x.own.length [] x.bls = bc at hv
  generalize hpc : firstNZ (x.pln.map (slotBad x.own.length)) = pc at hv
  refine fn_of lv144 Try.func144 rfl rfl (by kernel_rfl) rfl ?_
  refine ⟨{ i : Nat // i ≤ x.bls.length ∧ bellsBad x.own.length (x.bls.take i) (x.bls.drop i) = bc }, fun i => ⟨frL [(0, polP x), (3, di i.1)], hpL [], 96, 0⟩, fun i => x.bls.length - i.1, ⟨0, by omega, hbc⟩,
    le_of [] rfl rfl rfl rfl trivial (tellFr_x rfl ⟨DLe.refl _, DLe.refl _, DLe.refl _, DLe.refl _, trivial⟩ (tellFr_v rfl rfl trivial)), ?_⟩
  rintro ⟨i, hi, hall⟩
  by_cases h3 : i < x.bls.length
  · rw [bells_step _ _ _ h3] at hall
    have c1 := c_spec_l6Ends x hs (x.bls.getD i ⟨0, 0⟩).frm (x.bls.getD i ⟨0, 0⟩).to
    obtain ⟨b, hb⟩ : ∃ b, b = bellBad x.own.length (x.bls.getD i ⟨0, 0⟩) (x.bls.take i) := ⟨_, rfl⟩
    rw [← hb] at hall
    unfold bellBad at hb
    generalize endsF x.own.length (x.bls.getD i ⟨0, 0⟩).frm (x.bls.getD i ⟨0, 0⟩).to = e at hb c1
    have stop : ∀ r : Int, b = r → r ≠ 0 → r = v := fun r e1 e2 => by
      rw [e1, if_neg e2] at hall
      rw [if_neg (by rw [← hall]; exact e2), ← hall] at hv
      exact hv
    refine bsplit_of_true (decide_eq_true (by show (i : Int) < (x.bls.length : Int); omega)) ?_
    refine ask_intro ⟨by omega, by show (i : Int) < (x.bls.length : Int); omega, rfl⟩ ?_
    refine .inl ⟨_, _, rfl, c1, rfl, ?_⟩
    refine bsplit_intro (fun h4 => ?_) (fun h4 => ?_)
    · have h4 : ¬ e = 0 := by simpa using h4
      rw [if_neg h4] at hb
      exact ⟨⟨congrArg (Value.int .i64) (stop e hb h4), trivial⟩, rfl⟩
    have h4 : e = 0 := by simpa using h4
    rw [if_pos h4] at hb
    have hlt : (x.bls.take i).length = i := by rw [List.length_take]; omega
    refine ⟨{ k : Nat // k ≤ i ∧ ((x.bls.take i).drop k).any (fun a => a == x.bls.getD i ⟨0, 0⟩) = (x.bls.take i).any (fun a => a == x.bls.getD i ⟨0, 0⟩) },
      fun k => ⟨frL [(0, polP x), (3, di i), (4, .ptr 64 0), (6, di k.1)], hpL [(64, .box 173 [di (x.bls.getD i ⟨0, 0⟩).frm, di (x.bls.getD i ⟨0, 0⟩).to])], 96, 0⟩, fun k => i - k.1, ⟨0, by omega, by rw [List.drop_zero]⟩,
      le_of [(64, 4416)] rfl rfl rfl rfl (tellHp_box rfl rfl ⟨rfl, rfl, trivial⟩ tellHp_nil) (tellFr_x rfl ⟨DLe.refl _, DLe.refl _, DLe.refl _, DLe.refl _, trivial⟩ (tellFr_v rfl rfl (tellFr_ptr rfl rfl (tellFr_v rfl rfl trivial)))), ?_⟩
    rintro ⟨k, hk, hall2⟩
    by_cases h6 : k < i
    rotate_left
    · rw [List.drop_eq_nil_of_le (by omega)] at hall2
      rw [← hall2] at hb
      have hb : b = 0 := hb
      rw [if_pos hb] at hall
      refine bsplit_of_false (decide_eq_false (by show ¬ (k : Int) < (i : Int); omega)) ?_
      exact ⟨⟨i + 1, by omega, hall⟩, le_of [] rfl rfl rfl rfl trivial (tellFr_x rfl ⟨DLe.refl _, DLe.refl _, DLe.refl _, DLe.refl _, trivial⟩ (tellFr_v rfl (congrArg (Value.int .i64) (wrap1 h3 (by omega))) trivial)), by show x.bls.length - (i + 1) < x.bls.length - i; omega⟩
    rw [drop_anyG ⟨0, 0⟩ _ _ k (by omega), getD_take _ _ _ _ h6] at hall2
    have hq : ([(x.bls.getD k ⟨0, 0⟩).frm, (x.bls.getD k ⟨0, 0⟩).to] == [(x.bls.getD i ⟨0, 0⟩).frm, (x.bls.getD i ⟨0, 0⟩).to]) = (x.bls.getD k ⟨0, 0⟩ == x.bls.getD i ⟨0, 0⟩) := by
      have := congrFun (bellBeq (x.bls.getD k ⟨0, 0⟩)) (x.bls.getD i ⟨0, 0⟩)
      rw [this]
      by_cases h : x.bls.getD i ⟨0, 0⟩ = x.bls.getD k ⟨0, 0⟩
      · rw [h]
      · rw [beq_eq_false_iff_ne.2 h, beq_eq_false_iff_ne.2 (Ne.symm h)]
    rw [← hq] at hall2
    refine bsplit_of_true (decide_eq_true (by show (k : Int) < (i : Int); omega)) ?_
    refine ask_intro ⟨by omega, by show (k : Int) < (x.bls.length : Int); omega, rfl⟩ ?_
    refine chk_intro (by kernel_rfl) ?_
    refine bsplit_intro (fun h7 => ?_) (fun h7 => ?_)
    · rw [show ([(x.bls.getD k ⟨0, 0⟩).frm, (x.bls.getD k ⟨0, 0⟩).to] == [(x.bls.getD i ⟨0, 0⟩).frm, (x.bls.getD i ⟨0, 0⟩).to]) = true from h7, Bool.true_or] at hall2
      rw [← hall2] at hb
      exact ⟨⟨congrArg (Value.int .i64) (stop 6 hb (by decide)), trivial⟩, rfl⟩
    · rw [show ([(x.bls.getD k ⟨0, 0⟩).frm, (x.bls.getD k ⟨0, 0⟩).to] == [(x.bls.getD i ⟨0, 0⟩).frm, (x.bls.getD i ⟨0, 0⟩).to]) = false from h7, Bool.false_or] at hall2
      exact ⟨⟨k + 1, by omega, hall2⟩, le_of [(64, 64)] rfl rfl rfl rfl (tellHp_box rfl rfl ⟨rfl, rfl, trivial⟩ tellHp_nil) (tellFr_x rfl ⟨DLe.refl _, DLe.refl _, DLe.refl _, DLe.refl _, trivial⟩ (tellFr_v rfl rfl (tellFr_ptr rfl rfl (tellFr_v rfl (congrArg (Value.int .i64) (wrap1 (Nat.lt_trans h6 h3) (by omega))) trivial)))), by show i - (k + 1) < i - k; omega⟩
  rw [List.drop_eq_nil_of_le (by omega)] at hall
  have hall : 0 = bc := hall
  rw [if_pos hall.symm] at hv
  refine bsplit_of_false (decide_eq_false (by show ¬ (i : Int) < (x.bls.length : Int); omega)) ?_
  refine bsplit_intro (fun h => ?_) (fun h => ?_)
  · repeat' (first | refine bsplit_true ?_ | refine bsplit_false ?_)
    have h : decide ((x.pln.length : Int) < 1) = true := h
    rw [show inR (x.pln.length : Int) 1 8 = false from by unfold inR; have := of_decide_eq_true h; simp; omega] at hv
    exact ⟨⟨congrArg (Value.int .i64) hv, trivial⟩, rfl⟩
  repeat' (first | refine bsplit_true ?_ | refine bsplit_false ?_)
  refine bsplit_intro (fun h2 => ?_) (fun h2 => ?_)
  · have h2 : decide ((x.pln.length : Int) > 8) = true := h2
    rw [show inR (x.pln.length : Int) 1 8 = false from by unfold inR; have := of_decide_eq_true h2; simp; omega] at hv
    exact ⟨⟨congrArg (Value.int .i64) hv, trivial⟩, rfl⟩
  have hn1 : ¬ (x.pln.length : Int) < 1 := of_decide_eq_false h
  have hn2 : ¬ (x.pln.length : Int) > 8 := of_decide_eq_false h2
  rw [show inR (x.pln.length : Int) 1 8 = true from inR_iff.2 ⟨by omega, by omega⟩] at hv
  have hv : pc = v := hv
  refine ⟨{ i : Nat // i ≤ x.pln.length ∧ firstNZ ((x.pln.drop i).map (slotBad x.own.length)) = v }, fun i => ⟨frL [(0, polP x), (7, di i.1)], hpL [], 96, 0⟩, fun i => x.pln.length - i.1, ⟨0, by omega, by rw [← hv, ← hpc]; rfl⟩,
    le_of [] rfl rfl rfl rfl trivial (tellFr_x rfl ⟨DLe.refl _, DLe.refl _, DLe.refl _, DLe.refl _, trivial⟩ (tellFr_v rfl rfl trivial)), ?_⟩
  rintro ⟨j, hj, hall3⟩
  by_cases h1 : j < x.pln.length
  · rw [map_drop ⟨0, 0⟩ _ _ _ h1] at hall3
    refine bsplit_of_true (decide_eq_true (by show (j : Int) < (x.pln.length : Int); omega)) ?_
    refine ask_intro ⟨by omega, by show (j : Int) < (x.pln.length : Int); omega, rfl⟩ ?_
    refine .inl ⟨_, _, rfl, c_spec_l6Guest x hs (x.pln.getD j ⟨0, 0⟩).guest, rfl, ?_⟩
    refine bsplit_intro (fun h2 => ?_) (fun h2 => ?_)
    · have e : slotBad x.own.length (x.pln.getD j ⟨0, 0⟩) = 4 := by
        unfold slotBad
        rw [show (!guestB x.own.length (x.pln.getD j ⟨0, 0⟩).guest) = true from h2]; rfl
      rw [e] at hall3
      exact ⟨⟨congrArg (Value.int .i64) hall3, trivial⟩, rfl⟩
    refine ask_intro ⟨by omega, by show (j : Int) < (x.pln.length : Int); omega, rfl⟩ ?_
    refine .inl ⟨_, _, rfl, c_spec_l1In (x.pln.getD j ⟨0, 0⟩).steps 1 50, rfl, ?_⟩
    refine bsplit_intro (fun h3 => ?_) (fun h3 => ?_)
    · have e : slotBad x.own.length (x.pln.getD j ⟨0, 0⟩) = 3 := by
        unfold slotBad
        rw [show (!guestB x.own.length (x.pln.getD j ⟨0, 0⟩).guest) = false from h2, show (!inR (x.pln.getD j ⟨0, 0⟩).steps 1 50) = true from h3]; rfl
      rw [e] at hall3
      exact ⟨⟨congrArg (Value.int .i64) hall3, trivial⟩, rfl⟩
    have e : slotBad x.own.length (x.pln.getD j ⟨0, 0⟩) = 0 := by
      unfold slotBad
      rw [show (!guestB x.own.length (x.pln.getD j ⟨0, 0⟩).guest) = false from h2, show (!inR (x.pln.getD j ⟨0, 0⟩).steps 1 50) = false from h3]; rfl
    rw [e] at hall3
    exact ⟨⟨j + 1, by omega, hall3⟩, le_of [] rfl rfl rfl rfl trivial (tellFr_x rfl ⟨DLe.refl _, DLe.refl _, DLe.refl _, DLe.refl _, trivial⟩ (tellFr_v rfl (congrArg (Value.int .i64) (wrap1 h1 (by omega))) trivial)), by show x.pln.length - (j + 1) < x.pln.length - j; omega⟩
  · rw [List.drop_eq_nil_of_le (by omega)] at hall3
    refine bsplit_of_false (decide_eq_false (by show ¬ (j : Int) < (x.pln.length : Int); omega)) ?_
    exact ⟨⟨congrArg (Value.int .i64) hall3, trivial⟩, rfl⟩
theorem c_spec_l6Fault (x : PolM) (hs : x.small) : FnOK Try.prog 76 [polP x] (ri (polFault x)) := by
  have c1 := c_spec_l6Owns x hs
  have c2 := c_spec_l6Lanes x hs
  have c3 := c_spec_l6Rest x hs
  generalize hv : polFault x = v
  have hv : (if ownBad x.own = 0 then (if lanesFault x = 0 then restFault x else lanesFault x) else ownBad x.own) = v := by
    rw [← hv]
    unfold polFault lanesFault restFault
    cases (decide (x.lns.length > 4) || decide (x.bls.length > 4)) with
    | true => simp
    | false => rfl
  generalize ownBad x.own = e1 at *
  generalize lanesFault x = e2 at *
  generalize restFault x = e3 at *
  refine fn_of lv76 Try.func76 rfl rfl (by kernel_rfl) rfl ?_
  refine .inl ⟨_, _, rfl, c1, rfl, ?_⟩
  refine bsplit_intro (fun h => ?_) (fun h => ?_)
  · rw [if_neg (by simpa using h)] at hv
    exact ⟨⟨congrArg (Value.int .i64) hv, trivial⟩, rfl⟩
  rw [if_pos (by simpa using h)] at hv
  refine .inl ⟨_, _, rfl, c2, rfl, ?_⟩
  refine bsplit_intro (fun h2 => ?_) (fun h2 => ?_)
  · rw [if_neg (by simpa using h2)] at hv
    exact ⟨⟨congrArg (Value.int .i64) hv, trivial⟩, rfl⟩
  rw [if_pos (by simpa using h2)] at hv
  refine .inl ⟨_, _, rfl, c3, rfl, ?_⟩
  exact ⟨⟨congrArg (Value.int .i64) hv, trivial⟩, rfl⟩
end Go.Proofs.Ytojaakpnpdnbhaa.L

/- Owners, steps, faults with more asked: contracts. -/
set_option linter.unusedVariables false
set_option linter.unusedSimpArgs false
set_option maxRecDepth 100000
namespace Go.Proofs.Ytojaakpnpdnbhaa.L
open Go.RowKit
def ownerOf (x : PolM) (v : Int) : Int × Int := if polFault x = 0 then (if ownerP x.own v < 0 then (4, 0) else (0, ownerP x.own v)) else (polFault x, 0)
/-! ## faults with a guest, with a clock -/
def askedG (x : PolM) (g : Int) : Int := if polFault x = 0 then (bif !guestB x.own.length g then 4 else 0) else polFault x
def askedC (x : PolM) (c : Int) : Int := if polFault x = 0 then (bif !inR c 0 1000000 then 3 else 0) else polFault x
theorem c_spec_l6Asked (x : PolM) (hs : x.small) (g : Int) : FnOK Try.prog 90 [polP x, di g] (ri (askedG x g)) := by
  have c1 := c_spec_l6Fault x hs
  have c2 := c_spec_l6Guest x hs g
  generalize hv : askedG x g = v
  unfold askedG at hv
  generalize polFault x = e at *
  generalize guestB x.own.length g = b at *
  refine fn_of lv90 Try.func90 rfl rfl (by kernel_rfl) rfl ?_
  refine .inl ⟨_, _, rfl, c1, rfl, ?_⟩
  refine bsplit_intro (fun h => ?_) (fun h => ?_)
  · rw [if_neg (by simpa using h)] at hv
    exact ⟨⟨congrArg (Value.int .i64) hv, trivial⟩, rfl⟩
  rw [if_pos (by simpa using h)] at hv
  refine .inl ⟨_, _, rfl, c2, rfl, ?_⟩
  refine bsplit_intro (fun h2 => ?_) (fun h2 => ?_)
  all_goals (rw [h2] at hv; exact ⟨⟨congrArg (Value.int .i64) hv, trivial⟩, rfl⟩)
theorem c_impl_guestFault (x : PolM) (hs : x.small) (g : Int) : FnOK Try.prog 93 [polLV x, di g] (ri (askedG x g)) := by
  have c1 := c_impl_PolicyFault x hs
  have c2 := c_impl_isGuest x hs g
  generalize hv : askedG x g = v
  unfold askedG at hv
  generalize polFault x = e at *
  generalize guestB x.own.length g = b at *
  refine fn_of lv93 Try.func93 rfl rfl (by kernel_rfl) rfl ?_
  refine .inl ⟨_, _, rfl, c1, rfl, ?_⟩
  refine bsplit_intro (fun h => ?_) (fun h => ?_)
  · rw [if_pos (by simpa using h)] at hv
    repeat' (first | refine bsplit_true ?_ | refine bsplit_false ?_)
    refine .inl ⟨_, _, rfl, c2, rfl, ?_⟩
    repeat' (first | refine bsplit_true ?_ | refine bsplit_false ?_)
    refine bsplit_intro (fun h2 => ?_) (fun h2 => ?_)
    · rw [h2] at hv
      exact ⟨⟨congrArg (Value.int .i64) hv, trivial⟩, rfl⟩
    · rw [h2] at hv
      have h : e = 0 := by simpa using h
      exact ⟨⟨congrArg (Value.int .i64) (h.trans hv), trivial⟩, rfl⟩
  · rw [if_neg (by simpa using h)] at hv
    repeat' (first | refine bsplit_true ?_ | refine bsplit_false ?_)
    exact ⟨⟨congrArg (Value.int .i64) hv, trivial⟩, rfl⟩
/-! ## sums of steps -/
def stW (p : SlotM → Bool) : List SlotM → Int → Int
  | [], n => n
  | s :: r, n => stW p r (bif p s then IntKind.i64.wrap (n + s.steps) else n)
theorem stW_step (p : SlotM → Bool) (l : List SlotM) (i : Nat) (h : i < l.length) (n : Int) : stW p (l.drop i) n = stW p (l.drop (i + 1)) (bif p (l.getD i ⟨0, 0⟩) then IntKind.i64.wrap (n + (l.getD i ⟨0, 0⟩).steps) else n) := by
  rw [drop_consG ⟨0, 0⟩ l i h]; rfl
abbrev ofG (g : Int) (s : SlotM) : Bool := decide (g < 0) || s.guest == g
def roundOf (x : PolM) : Int × Int := if polFault x = 0 then (0, stW (fun _ => true) x.pln 0) else (polFault x, 0)
def framesOf (x : PolM) (g : Int) : Int × Int := if askedG x g = 0 then (0, stW (fun s => s.guest == g) x.pln 0) else (askedG x g, 0)
theorem ofG_of {x : PolM} {g : Int} (h : askedG x g = 0) : ofG g = fun s => s.guest == g := by
  unfold askedG at h
  split at h
  · cases hb : guestB x.own.length g with
    | true =>
      have := (inR_iff.1 (show inR g 0 _ = true from hb)).1
      funext s
      unfold ofG
      rw [decide_eq_false (by omega), Bool.false_or]
    | false => rw [hb] at h; simp at h
  · rename_i e; exact absurd h e
end Go.Proofs.Ytojaakpnpdnbhaa.L

/- What the functions compute that tell the words of a lonely machine's page: contracts. -/
set_option linter.unusedVariables false
set_option linter.unusedSimpArgs false
set_option maxRecDepth 100000
namespace Go.Proofs.Ytojaakpnpdnbhaa.L
open Go.RowKit
abbrev irsR (p : Int × List Int) : RV1 := .agg [.v (.int .i64 p.1), oInts p.2]
abbrev irsLV (p : Int × List Int) : LV := .agg [di p.1, .d (ints p.2)]
def soloWords (x : SoloM) (p : Int) : Int × List Int := if soloFault x = 0 then (bif !inR p 0 7 then (3, []) else (0, pageW x.mem p)) else (soloFault x, [])
theorem soloFault_mem {x : SoloM} (h : soloFault x = 0) : x.mem.length = 64 := by
  unfold soloFault at h
  split at h
  · split at h
    · cases hb : (memFault x.mem != 0) || ((x.mem.length : Int) != 64) with
      | true => rw [hb] at h; simp at h
      | false => simp only [Bool.or_eq_false_iff, bne_eq_false_iff_eq] at hb; omega
    · rename_i h2; exact absurd h h2
  · rename_i h2; exact absurd h h2
end Go.Proofs.Ytojaakpnpdnbhaa.L

/- What the law functions compute on an answer that is a code and a row of words: contracts. -/
set_option linter.unusedVariables false
set_option linter.unusedSimpArgs false
set_option maxRecDepth 100000
namespace Go.Proofs.Ytojaakpnpdnbhaa.L
open Go.RowKit
theorem c_laws_eqIntsResult (p q : Int × List Int) (hs : p.2.length ≤ 9223372036854775807) : FnOK Try.prog 27 [irsLV p, irsLV q] (rb (decide (p = q))) := by
  refine fn_of lv27 Try.func27 rfl rfl (by kernel_rfl) rfl ?_
  repeat' (first | refine bsplit_true ?_ | refine bsplit_false ?_ | refine .inl ⟨_, _, rfl, c_laws_eqInt64S p.2 q.2 hs, rfl, ?_⟩ | refine bsplit_intro (fun h => ?_) (fun h => ?_))
  all_goals refine ⟨⟨congrArg Value.bool ?_, trivial⟩, rfl⟩
  all_goals (obtain ⟨a1, a2⟩ := p; obtain ⟨b1, b2⟩ := q; simp_all)
theorem c_laws_markIntsResult (p : Int × List Int) (k : Int) (hf : p.2.length ≤ 1099511627776) (hk : 0 ≤ k) (hk2 : k ≤ 1099511627776) : MutOK Try.prog 30 [.agg [di p.1, .row 0], di k] 1 [(0, rowE p.2)] (di (k + p.2.length)) 1 [(0, rowM p.2 k)] := by
  refine mut_fn_of lv30 Try.func30 rfl rfl (by kernel_rfl) rfl [] ?_
  refine .inr ⟨rfl, use_mut ⟨_, _, _, _, _, _, rfl, rfl, c_laws_markInt64S p.2 k hf hk hk2, rfl, ?_⟩⟩
  exact chk_intro (by kernel_rfl) ⟨tellV_v rfl rfl, tellHp_row rfl rfl rfl (fun j hj => rfl) tellHp_nil⟩
theorem c_laws_heldIntsResult (p : Int × List Int) (k : Int) (hf : p.2.length ≤ 1099511627776) (hk : 0 ≤ k) (hk2 : k ≤ 1099511627776) : FnOK Try.prog 31 [.agg [di p.1, datM p.2 k], di k] (ri (k + p.2.length)) := by
  refine fn_of lv31 Try.func31 rfl rfl (by kernel_rfl) rfl ?_
  refine .inl ⟨_, _, rfl, c_laws_heldInt64S k p.2.length hf hk hk2, rfl, ?_⟩
  refine bsplit_of_false (decide_eq_false (show ¬ k + (p.2.length : Int) < 0 by omega)) ?_
  exact ⟨⟨rfl, trivial⟩, rfl⟩
end Go.Proofs.Ytojaakpnpdnbhaa.L

/- What the law functions compute that mark policies: contracts. -/
set_option linter.unusedVariables false
set_option linter.unusedSimpArgs false
set_option maxRecDepth 100000
namespace Go.Proofs.Ytojaakpnpdnbhaa.L
open Go.RowKit
abbrev rowLane (l : List LaneM) : Ent := .row 146 5 l.length (lanesF l)
abbrev laneMk (k : Int) (j : Nat) : List D := [.v (.int .i64 (k + 5 * (j : Int))), .v (.int .i64 (k + 5 * (j : Int) + 1)), .v (.int .i64 (k + 5 * (j : Int) + 2)), .v (.int .i64 (k + 5 * (j : Int) + 3)), .v (.int .i64 (k + 5 * (j : Int) + 4))]
set_option maxHeartbeats 1600000 in
theorem c_laws_markLaneS (l : List LaneM) (k : Int) (hl : l.length ≤ 109951162777) (hk : 0 ≤ k) (hk2 : k ≤ 1099511627776) :
    MutOK Try.prog 86 [.row 0, di k] 1 [(0, rowLane l)] (di (k + 5 * l.length)) 1 [(0, .row 146 5 l.length (laneMk k))] := by
  refine mut_fn_of lv86 Try.func86 rfl rfl (by kernel_rfl) rfl [] ?_
  refine ⟨{ i : Nat // i ≤ l.length }, fun i => ⟨frL [(0, .row 0), (1, di (k + 5 * (i.1 : Int))), (5, di i.1)], hpL [(0, .row 146 5 l.length fun j => if j < i.1 then laneMk k j else lanesF l j)], 1, 1⟩, fun i => l.length - i.1, ⟨0, by omega⟩,
    le_of [] rfl rfl rfl rfl (tellHp_row rfl rfl rfl (fun i hi => rfl) tellHp_nil) (tellFr_row rfl rfl (tellFr_v rfl (congrArg (Value.int .i64) (?_ : k = k + 5 * ((0 : Nat) : Int))) (tellFr_v rfl rfl trivial))), ?_⟩
  · omega
  rintro ⟨i, hi⟩
  refine bsplit_intro (fun h => ?_) (fun h => ?_)
  · have h : i < l.length := by simp at h; exact h
    have w1 : IntKind.i64.wrap (k + 5 * (i : Int) + 1) = k + 5 * (i : Int) + 1 := (wrap_i64 _ (by omega) (by omega)).trans (by omega)
    have w2 : IntKind.i64.wrap (k + 5 * (i : Int) + 1 + 1) = k + 5 * (i : Int) + 2 := (wrap_i64 _ (by omega) (by omega)).trans (by omega)
    have w3 : IntKind.i64.wrap (k + 5 * (i : Int) + 2 + 1) = k + 5 * (i : Int) + 3 := (wrap_i64 _ (by omega) (by omega)).trans (by omega)
    have w4 : IntKind.i64.wrap (k + 5 * (i : Int) + 3 + 1) = k + 5 * (i : Int) + 4 := (wrap_i64 _ (by omega) (by omega)).trans (by omega)
    refine ask_intro ⟨by omega, by show (i : Int) < (l.length : Int); omega⟩ ?_
    refine ask_intro (by show i < l.length; exact h) ?_
    refine ask_intro ⟨by omega, by show (i : Int) < (l.length : Int); omega⟩ ?_
    refine ask_intro (by show i < l.length; exact h) ?_
    refine ask_intro ⟨by omega, by show (i : Int) < (l.length : Int); omega⟩ ?_
    refine ask_intro (by show i < l.length; exact h) ?_
    refine ask_intro ⟨by omega, by show (i : Int) < (l.length : Int); omega⟩ ?_
    refine ask_intro (by show i < l.length; exact h) ?_
    refine ask_intro ⟨by omega, by show (i : Int) < (l.length : Int); omega⟩ ?_
    refine ask_intro (by show i < l.length; exact h) ?_
    refine ⟨⟨i + 1, by omega⟩, le_of [] rfl rfl rfl rfl (tellHp_row rfl rfl rfl (fun j hj => ?_) tellHp_nil) (tellFr_row rfl rfl (tellFr_v rfl (congrArg (Value.int .i64) (?_ : IntKind.i64.wrap (IntKind.i64.wrap (IntKind.i64.wrap (IntKind.i64.wrap (IntKind.i64.wrap (k + 5 * (i : Int) + 1) + 1) + 1) + 1) + 1) = k + 5 * ((i + 1 : Nat) : Int))) (tellFr_v rfl (congrArg (Value.int .i64) (?_ : IntKind.i64.wrap ((i : Int) + 1) = ((i + 1 : Nat) : Int))) trivial))), by show l.length - (i + 1) < l.length - i; omega⟩
    · show (if j = i then splice (if j = i then splice (if j = i then splice (if j = i then splice (if j = i then splice (if j < i then laneMk k j else lanesF l j) 0 [D.v (.int .i64 (k + 5 * (i : Int)))] else (if j < i then laneMk k j else lanesF l j)) 1 [D.v (.int .i64 (IntKind.i64.wrap (k + 5 * (i : Int) + 1)))] else (if j = i then splice (if j < i then laneMk k j else lanesF l j) 0 [D.v (.int .i64 (k + 5 * (i : Int)))] else (if j < i then laneMk k j else lanesF l j))) 2 [D.v (.int .i64 (IntKind.i64.wrap (IntKind.i64.wrap (k + 5 * (i : Int) + 1) + 1)))] else (if j = i then splice (if j = i then splice (if j < i then laneMk k j else lanesF l j) 0 [D.v (.int .i64 (k + 5 * (i : Int)))] else (if j < i then laneMk k j else lanesF l j)) 1 [D.v (.int .i64 (IntKind.i64.wrap (k + 5 * (i : Int) + 1)))] else (if j = i then splice (if j < i then laneMk k j else lanesF l j) 0 [D.v (.int .i64 (k + 5 * (i : Int)))] else (if j < i then laneMk k j else lanesF l j)))) 3 [D.v (.int .i64 (IntKind.i64.wrap (IntKind.i64.wrap (IntKind.i64.wrap (k + 5 * (i : Int) + 1) + 1) + 1)))] else (if j = i then splice (if j = i then splice (if j = i then splice (if j < i then laneMk k j else lanesF l j) 0 [D.v (.int .i64 (k + 5 * (i : Int)))] else (if j < i then laneMk k j else lanesF l j)) 1 [D.v (.int .i64 (IntKind.i64.wrap (k + 5 * (i : Int) + 1)))] else (if j = i then splice (if j < i then laneMk k j else lanesF l j) 0 [D.v (.int .i64 (k + 5 * (i : Int)))] else (if j < i then laneMk k j else lanesF l j))) 2 [D.v (.int .i64 (IntKind.i64.wrap (IntKind.i64.wrap (k + 5 * (i : Int) + 1) + 1)))] else (if j = i then splice (if j = i then splice (if j < i then laneMk k j else lanesF l j) 0 [D.v (.int .i64 (k + 5 * (i : Int)))] else (if j < i then laneMk k j else lanesF l j)) 1 [D.v (.int .i64 (IntKind.i64.wrap (k + 5 * (i : Int) + 1)))] else (if j = i then splice (if j < i then laneMk k j else lanesF l j) 0 [D.v (.int .i64 (k + 5 * (i : Int)))] else (if j < i then laneMk k j else lanesF l j))))) 4 [D.v (.int .i64 (IntKind.i64.wrap (IntKind.i64.wrap (IntKind.i64.wrap (IntKind.i64.wrap (k + 5 * (i : Int) + 1) + 1) + 1) + 1)))] else (if j = i then splice (if j = i then splice (if j = i then splice (if j = i then splice (if j < i then laneMk k j else lanesF l j) 0 [D.v (.int .i64 (k + 5 * (i : Int)))] else (if j < i then laneMk k j else lanesF l j)) 1 [D.v (.int .i64 (IntKind.i64.wrap (k + 5 * (i : Int) + 1)))] else (if j = i then splice (if j < i then laneMk k j else lanesF l j) 0 [D.v (.int .i64 (k + 5 * (i : Int)))] else (if j < i then laneMk k j else lanesF l j))) 2 [D.v (.int .i64 (IntKind.i64.wrap (IntKind.i64.wrap (k + 5 * (i : Int) + 1) + 1)))] else (if j = i then splice (if j = i then splice (if j < i then laneMk k j else lanesF l j) 0 [D.v (.int .i64 (k + 5 * (i : Int)))] else (if j < i then laneMk k j else lanesF l j)) 1 [D.v (.int .i64 (IntKind.i64.wrap (k + 5 * (i : Int) + 1)))] else (if j = i then splice (if j < i then laneMk k j else lanesF l j) 0 [D.v (.int .i64 (k + 5 * (i : Int)))] else (if j < i then laneMk k j else lanesF l j)))) 3 [D.v (.int .i64 (IntKind.i64.wrap (IntKind.i64.wrap (IntKind.i64.wrap (k + 5 * (i : Int) + 1) + 1) + 1)))] else (if j = i then splice (if j = i then splice (if j = i then splice (if j < i then laneMk k j else lanesF l j) 0 [D.v (.int .i64 (k + 5 * (i : Int)))] else (if j < i then laneMk k j else lanesF l j)) 1 [D.v (.int .i64 (IntKind.i64.wrap (k + 5 * (i : Int) + 1)))] else (if j = i then splice (if j < i then laneMk k j else lanesF l j) 0 [D.v (.int .i64 (k + 5 * (i : Int)))] else (if j < i then laneMk k j else lanesF l j))) 2 [D.v (.int .i64 (IntKind.i64.wrap (IntKind.i64.wrap (k + 5 * (i : Int) + 1) + 1)))] else (if j = i then splice (if j = i then splice (if j < i then laneMk k j else lanesF l j) 0 [D.v (.int .i64 (k + 5 * (i : Int)))] else (if j < i then laneMk k j else lanesF l j)) 1 [D.v (.int .i64 (IntKind.i64.wrap (k + 5 * (i : Int) + 1)))] else (if j = i then splice (if j < i then laneMk k j else lanesF l j) 0 [D.v (.int .i64 (k + 5 * (i : Int)))] else (if j < i then laneMk k j else lanesF l j)))))) = if j < i + 1 then laneMk k j else lanesF l j
      by_cases h1 : j = i
      · subst h1
        rw [if_pos (show j < j + 1 by omega)]
        simp only [eq_self, if_true, Nat.lt_irrefl, if_false, w1, w2, w3, w4]
        rfl
      · simp only [h1, if_false]
        by_cases h2 : j < i
        · rw [if_pos h2, if_pos (by omega)]
        · rw [if_neg h2, if_neg (by omega)]
    · simp only [w1, w2, w3, w4]
      rw [wrap_i64 _ (by omega) (by omega)]; omega
    · exact wrap_i64 (i + 1) (by omega) (by omega)
  · simp at h
    have e : i = l.length := by omega
    subst e
    refine chk_intro (by kernel_rfl) ⟨tellV_v rfl rfl, tellHp_row rfl rfl rfl (fun j hj => ?_) tellHp_nil⟩
    show (if j < l.length then laneMk k j else lanesF l j) = laneMk k j
    rw [if_pos hj]
abbrev rowBell (l : List BellM) : Ent := .row 173 2 l.length (bellsF l)
abbrev bellMk (k : Int) (j : Nat) : List D := [.v (.int .i64 (k + 2 * (j : Int))), .v (.int .i64 (k + 2 * (j : Int) + 1))]
set_option maxHeartbeats 1600000 in
theorem c_laws_markBellS (l : List BellM) (k : Int) (hl : l.length ≤ 109951162777) (hk : 0 ≤ k) (hk2 : k ≤ 1099511627776) :
    MutOK Try.prog 87 [.row 0, di k] 1 [(0, rowBell l)] (di (k + 2 * l.length)) 1 [(0, .row 173 2 l.length (bellMk k))] := by
  refine mut_fn_of lv87 Try.func87 rfl rfl (by kernel_rfl) rfl [] ?_
  refine ⟨{ i : Nat // i ≤ l.length }, fun i => ⟨frL [(0, .row 0), (1, di (k + 2 * (i.1 : Int))), (5, di i.1)], hpL [(0, .row 173 2 l.length fun j => if j < i.1 then bellMk k j else bellsF l j)], 1, 1⟩, fun i => l.length - i.1, ⟨0, by omega⟩,
    le_of [] rfl rfl rfl rfl (tellHp_row rfl rfl rfl (fun i hi => rfl) tellHp_nil) (tellFr_row rfl rfl (tellFr_v rfl (congrArg (Value.int .i64) (?_ : k = k + 2 * ((0 : Nat) : Int))) (tellFr_v rfl rfl trivial))), ?_⟩
  · omega
  rintro ⟨i, hi⟩
  refine bsplit_intro (fun h => ?_) (fun h => ?_)
  · have h : i < l.length := by simp at h; exact h
    have w1 : IntKind.i64.wrap (k + 2 * (i : Int) + 1) = k + 2 * (i : Int) + 1 := (wrap_i64 _ (by omega) (by omega)).trans (by omega)
    refine ask_intro ⟨by omega, by show (i : Int) < (l.length : Int); omega⟩ ?_
    refine ask_intro (by show i < l.length; exact h) ?_
    refine ask_intro ⟨by omega, by show (i : Int) < (l.length : Int); omega⟩ ?_
    refine ask_intro (by show i < l.length; exact h) ?_
    refine ⟨⟨i + 1, by omega⟩, le_of [] rfl rfl rfl rfl (tellHp_row rfl rfl rfl (fun j hj => ?_) tellHp_nil) (tellFr_row rfl rfl (tellFr_v rfl (congrArg (Value.int .i64) (?_ : IntKind.i64.wrap (IntKind.i64.wrap (k + 2 * (i : Int) + 1) + 1) = k + 2 * ((i + 1 : Nat) : Int))) (tellFr_v rfl (congrArg (Value.int .i64) (?_ : IntKind.i64.wrap ((i : Int) + 1) = ((i + 1 : Nat) : Int))) trivial))), by show l.length - (i + 1) < l.length - i; omega⟩
    · show (if j = i then splice (if j = i then splice (if j < i then bellMk k j else bellsF l j) 0 [D.v (.int .i64 (k + 2 * (i : Int)))] else (if j < i then bellMk k j else bellsF l j)) 1 [D.v (.int .i64 (IntKind.i64.wrap (k + 2 * (i : Int) + 1)))] else (if j = i then splice (if j < i then bellMk k j else bellsF l j) 0 [D.v (.int .i64 (k + 2 * (i : Int)))] else (if j < i then bellMk k j else bellsF l j))) = if j < i + 1 then bellMk k j else bellsF l j
      by_cases h1 : j = i
      · subst h1
        rw [if_pos (show j < j + 1 by omega)]
        simp only [eq_self, if_true, Nat.lt_irrefl, if_false, w1]
        rfl
      · simp only [h1, if_false]
        by_cases h2 : j < i
        · rw [if_pos h2, if_pos (by omega)]
        · rw [if_neg h2, if_neg (by omega)]
    · simp only [w1]
      rw [wrap_i64 _ (by omega) (by omega)]; omega
    · exact wrap_i64 (i + 1) (by omega) (by omega)
  · simp at h
    have e : i = l.length := by omega
    subst e
    refine chk_intro (by kernel_rfl) ⟨tellV_v rfl rfl, tellHp_row rfl rfl rfl (fun j hj => ?_) tellHp_nil⟩
    show (if j < l.length then bellMk k j else bellsF l j) = bellMk k j
    rw [if_pos hj]
abbrev rowSlot (l : List SlotM) : Ent := .row 177 2 l.length (slotsF l)
abbrev slotMk (k : Int) (j : Nat) : List D := [.v (.int .i64 (k + 2 * (j : Int))), .v (.int .i64 (k + 2 * (j : Int) + 1))]
set_option maxHeartbeats 1600000 in
theorem c_laws_markSlotS (l : List SlotM) (k : Int) (hl : l.length ≤ 109951162777) (hk : 0 ≤ k) (hk2 : k ≤ 1099511627776) :
    MutOK Try.prog 88 [.row 0, di k] 1 [(0, rowSlot l)] (di (k + 2 * l.length)) 1 [(0, .row 177 2 l.length (slotMk k))] := by
  refine mut_fn_of lv88 Try.func88 rfl rfl (by kernel_rfl) rfl [] ?_
  refine ⟨{ i : Nat // i ≤ l.length }, fun i => ⟨frL [(0, .row 0), (1, di (k + 2 * (i.1 : Int))), (5, di i.1)], hpL [(0, .row 177 2 l.length fun j => if j < i.1 then slotMk k j else slotsF l j)], 1, 1⟩, fun i => l.length - i.1, ⟨0, by omega⟩,
    le_of [] rfl rfl rfl rfl (tellHp_row rfl rfl rfl (fun i hi => rfl) tellHp_nil) (tellFr_row rfl rfl (tellFr_v rfl (congrArg (Value.int .i64) (?_ : k = k + 2 * ((0 : Nat) : Int))) (tellFr_v rfl rfl trivial))), ?_⟩
  · omega
  rintro ⟨i, hi⟩
  refine bsplit_intro (fun h => ?_) (fun h => ?_)
  · have h : i < l.length := by simp at h; exact h
    have w1 : IntKind.i64.wrap (k + 2 * (i : Int) + 1) = k + 2 * (i : Int) + 1 := (wrap_i64 _ (by omega) (by omega)).trans (by omega)
    refine ask_intro ⟨by omega, by show (i : Int) < (l.length : Int); omega⟩ ?_
    refine ask_intro (by show i < l.length; exact h) ?_
    refine ask_intro ⟨by omega, by show (i : Int) < (l.length : Int); omega⟩ ?_
    refine ask_intro (by show i < l.length; exact h) ?_
    refine ⟨⟨i + 1, by omega⟩, le_of [] rfl rfl rfl rfl (tellHp_row rfl rfl rfl (fun j hj => ?_) tellHp_nil) (tellFr_row rfl rfl (tellFr_v rfl (congrArg (Value.int .i64) (?_ : IntKind.i64.wrap (IntKind.i64.wrap (k + 2 * (i : Int) + 1) + 1) = k + 2 * ((i + 1 : Nat) : Int))) (tellFr_v rfl (congrArg (Value.int .i64) (?_ : IntKind.i64.wrap ((i : Int) + 1) = ((i + 1 : Nat) : Int))) trivial))), by show l.length - (i + 1) < l.length - i; omega⟩
    · show (if j = i then splice (if j = i then splice (if j < i then slotMk k j else slotsF l j) 0 [D.v (.int .i64 (k + 2 * (i : Int)))] else (if j < i then slotMk k j else slotsF l j)) 1 [D.v (.int .i64 (IntKind.i64.wrap (k + 2 * (i : Int) + 1)))] else (if j = i then splice (if j < i then slotMk k j else slotsF l j) 0 [D.v (.int .i64 (k + 2 * (i : Int)))] else (if j < i then slotMk k j else slotsF l j))) = if j < i + 1 then slotMk k j else slotsF l j
      by_cases h1 : j = i
      · subst h1
        rw [if_pos (show j < j + 1 by omega)]
        simp only [eq_self, if_true, Nat.lt_irrefl, if_false, w1]
        rfl
      · simp only [h1, if_false]
        by_cases h2 : j < i
        · rw [if_pos h2, if_pos (by omega)]
        · rw [if_neg h2, if_neg (by omega)]
    · simp only [w1]
      rw [wrap_i64 _ (by omega) (by omega)]; omega
    · exact wrap_i64 (i + 1) (by omega) (by omega)
  · simp at h
    have e : i = l.length := by omega
    subst e
    refine chk_intro (by kernel_rfl) ⟨tellV_v rfl rfl, tellHp_row rfl rfl rfl (fun j hj => ?_) tellHp_nil⟩
    show (if j < l.length then slotMk k j else slotsF l j) = slotMk k j
    rw [if_pos hj]
/-! ## rows of rows -/
abbrev nestE (l : List (List Int)) : Ent := .nest 30 2 1 l.length (lenF l) (inF l) []
abbrev offK (l : List (List Int)) (k : Int) (i : Nat) : Int := k + (sumN (l.take i) : Nat)
abbrev nestMk (l : List (List Int)) (k : Int) (i j : Nat) : List D := intsF (markL (offK l k i) (l.getD i []).length) j
theorem c_laws_markInt64SS (l : List (List Int)) (k : Int) (hl : l.length ≤ 1048576) (hs : sumN l ≤ 1048576) (hk : 0 ≤ k) (hk2 : k ≤ 1073741824) :
    MutOK Try.prog 21 [.row 0, di k] 1 [(0, nestE l)] (di (k + (sumN l : Nat))) 1 [(0, .nest 30 2 1 l.length (lenF l) (nestMk l k) [])] := by
  refine mut_fn_of lv21 Try.func21 rfl rfl (by kernel_rfl) rfl [] ?_
  refine ⟨{ i : Nat // i ≤ l.length }, fun i => ⟨frL [(0, .row 0), (1, di (offK l k i.1)), (5, di i.1)], hpL [(0, .nest 30 2 1 l.length (lenF l) (fun j => if j < i.1 then nestMk l k j else inF l j) [])], 1, 1⟩, fun i => l.length - i.1, ⟨0, by omega⟩,
    le_of [] rfl rfl rfl rfl (tellHp_nest rfl rfl rfl (fun i hi => ⟨rfl, fun j hj => rfl⟩) tellHp_nil) (tellFr_row rfl rfl (tellFr_v rfl (congrArg (Value.int .i64) (?_ : k = offK l k 0)) (tellFr_v rfl rfl trivial))), ?_⟩
  · simp [offK, sumN]
  rintro ⟨i, hi⟩
  refine ask_intro trivial ?_
  refine bsplit_intro (fun h => ?_) (fun h => ?_)
  · have h : i < l.length := by simp at h; exact h
    have e1 := sumN_take l i h
    have e2 := sumN_le l i
    have e3 := sumN_get l i h
    refine ask_intro ⟨by omega, by show (i : Int) < (l.length : Int); omega⟩ ?_
    refine ask_intro (by show i < l.length; exact h) ?_
    have cm := (c_laws_markInt64S (l.getD i []) (offK l k i) (by omega) (by show 0 ≤ k + (sumN (l.take i) : Nat); omega) (by show k + (sumN (l.take i) : Nat) ≤ _; omega)).rows (hp0' := [(0, .row 2 1 (lenF l i) (if i < i then nestMk l k i else inF l i))]) ⟨rfl, ⟨rfl, rfl, rfl, fun j hj => by rw [if_neg (Nat.lt_irrefl i)]⟩, trivial⟩
    refine .inr ⟨rfl, use_mut ⟨_, _, _, _, _, _, rfl, rfl, cm, rfl, ?_⟩⟩
    refine ⟨⟨i + 1, by omega⟩, le_of [] rfl rfl rfl rfl (tellHp_hole rfl rfl rfl rfl rfl rfl ⟨rfl, fun j hj => ?_⟩ (fun j hj hne => ⟨rfl, fun q hq => ?_⟩) tellHp_nil) (tellFr_row rfl rfl (tellFr_v rfl (congrArg (Value.int .i64) (?_ : offK l k i + ((l.getD i []).length : Int) = offK l k (i + 1))) (tellFr_v rfl (congrArg (Value.int .i64) (?_ : IntKind.i64.wrap ((i : Int) + 1) = ((i + 1 : Nat) : Int))) trivial))), by show l.length - (i + 1) < l.length - i; omega⟩
    · show _ = (if i < i + 1 then nestMk l k i else inF l i) j
      rw [if_pos (by omega)]
    · show (if j < i then nestMk l k j else inF l j) q = (if j < i + 1 then nestMk l k j else inF l j) q
      have hne : j ≠ i := hne
      by_cases h2 : j < i
      · rw [if_pos h2, if_pos (by omega)]
      · rw [if_neg h2, if_neg (by omega)]
    · show k + (sumN (l.take i) : Nat) + ((l.getD i []).length : Int) = k + (sumN (l.take (i + 1)) : Nat)
      omega
    · exact wrap_i64 (i + 1) (by omega) (by omega)
  · simp at h
    have e : i = l.length := by omega
    subst e
    refine chk_intro (by kernel_rfl) ⟨tellV_v rfl ?_, tellHp_nest rfl rfl rfl (fun j hj => ⟨rfl, fun q hq => ?_⟩) tellHp_nil⟩
    · show Value.int .i64 (k + (sumN (l.take l.length) : Nat)) = _
      rw [List.take_length]
    · show (if j < l.length then nestMk l k j else inF l j) q = nestMk l k j q
      rw [if_pos hj]
end Go.Proofs.Ytojaakpnpdnbhaa.L

/- What the law functions compute that mark a policy: contracts. -/
set_option linter.unusedVariables false
set_option linter.unusedSimpArgs false
set_option maxRecDepth 100000
namespace Go.Proofs.Ytojaakpnpdnbhaa.L
open Go.RowKit
abbrev polRows (x : PolM) : List (Nat × Ent) := [(0, nestE x.own), (1, rowLane x.lns), (2, rowBell x.bls), (3, rowSlot x.pln)]
abbrev polK1 (x : PolM) (k : Int) : Int := k + (sumN x.own : Nat)
abbrev polK2 (x : PolM) (k : Int) : Int := polK1 x k + 5 * (x.lns.length : Int)
abbrev polK3 (x : PolM) (k : Int) : Int := polK2 x k + 2 * (x.bls.length : Int)
abbrev polK (x : PolM) (k : Int) : Int := polK3 x k + 2 * (x.pln.length : Int)
abbrev polMarks (x : PolM) (k : Int) : List (Nat × Ent) := [(0, .nest 30 2 1 x.own.length (lenF x.own) (nestMk x.own k) []), (1, .row 146 5 x.lns.length (laneMk (polK1 x k))), (2, .row 173 2 x.bls.length (bellMk (polK2 x k))), (3, .row 177 2 x.pln.length (slotMk (polK3 x k)))]
theorem polK_b (x : PolM) (k : Int) (hf : (x.size : Int) ≤ 1048576) (h1 : 0 ≤ k) (h2 : k ≤ 1073741824) : 0 ≤ polK x k ∧ polK x k ≤ k + 5242880 := by
  have e : x.size = x.own.length + sumN x.own + x.lns.length + x.bls.length + x.pln.length := rfl
  show 0 ≤ k + (sumN x.own : Nat) + 5 * (x.lns.length : Int) + 2 * (x.bls.length : Int) + 2 * (x.pln.length : Int) ∧ k + (sumN x.own : Nat) + 5 * (x.lns.length : Int) + 2 * (x.bls.length : Int) + 2 * (x.pln.length : Int) ≤ _
  omega
theorem c_laws_markPolicy (x : PolM) (k : Int) (hf : (x.size : Int) ≤ 1048576) (hk : 0 ≤ k) (hk2 : k ≤ 1073741824) :
    MutOK Try.prog 20 [.agg [.row 0, .row 1, .row 2, .row 3], di k] 4 (polRows x) (di (polK x k)) 4 (polMarks x k) := by
  have e : x.size = x.own.length + sumN x.own + x.lns.length + x.bls.length + x.pln.length := rfl
  have c1 := c_laws_markInt64SS x.own k (by omega) (by omega) hk hk2
  have c2 := c_laws_markLaneS x.lns (polK1 x k) (by omega) (by show 0 ≤ k + (sumN x.own : Nat); omega) (by show k + (sumN x.own : Nat) ≤ _; omega)
  have c3 := c_laws_markBellS x.bls (polK2 x k) (by omega) (by show 0 ≤ k + (sumN x.own : Nat) + 5 * (x.lns.length : Int); omega) (by show k + (sumN x.own : Nat) + 5 * (x.lns.length : Int) ≤ _; omega)
  have c4 := c_laws_markSlotS x.pln (polK3 x k) (by omega) (by show 0 ≤ k + (sumN x.own : Nat) + 5 * (x.lns.length : Int) + 2 * (x.bls.length : Int); omega) (by show k + (sumN x.own : Nat) + 5 * (x.lns.length : Int) + 2 * (x.bls.length : Int) ≤ _; omega)
  refine mut_fn_of lv20 Try.func20 rfl rfl (by kernel_rfl) rfl [] ?_
  refine .inr ⟨rfl, use_mut ⟨_, _, _, _, _, _, rfl, rfl, c1, rfl, ?_⟩⟩
  refine .inr ⟨rfl, use_mut ⟨_, _, _, _, _, _, rfl, rfl, c2, rfl, ?_⟩⟩
  refine .inr ⟨rfl, use_mut ⟨_, _, _, _, _, _, rfl, rfl, c3, rfl, ?_⟩⟩
  refine .inr ⟨rfl, use_mut ⟨_, _, _, _, _, _, rfl, rfl, c4, rfl, ?_⟩⟩
  exact chk_intro (by kernel_rfl) ⟨tellV_v rfl rfl, tellHp_nest rfl rfl rfl (fun j hj => ⟨rfl, fun q hq => rfl⟩) (tellHp_row rfl rfl rfl (fun j hj => rfl) (tellHp_row rfl rfl rfl (fun j hj => rfl) (tellHp_row rfl rfl rfl (fun j hj => rfl) tellHp_nil)))⟩
end Go.Proofs.Ytojaakpnpdnbhaa.L

/- The words of a lane's page: contracts. -/
set_option linter.unusedVariables false
set_option linter.unusedSimpArgs false
set_option maxRecDepth 100000
namespace Go.Proofs.Ytojaakpnpdnbhaa.L
open Go.RowKit
def wholeB (m : List Int) : Bool := (memFault m == 0) && ((m.length : Int) == 192)
theorem c_spec_l7Whole (m : List Int) (hm : m.length ≤ 1048576) : FnOK Try.prog 91 [.d (ints m)] (rb (wholeB m)) := by
  have c1 := c_spec_MemoryFault m hm
  generalize hv : wholeB m = v
  unfold wholeB at hv
  generalize memFault m = e at *
  refine fn_of lv91 Try.func91 rfl rfl (by kernel_rfl) rfl ?_
  refine .inl ⟨_, _, rfl, c1, rfl, ?_⟩
  repeat' (first | refine bsplit_true ?_ | refine bsplit_false ?_ | refine bsplit_intro (fun h => ?_) (fun h => ?_))
  all_goals refine ⟨⟨congrArg Value.bool ?_, trivial⟩, rfl⟩
  all_goals simp_all
theorem c_impl_isWhole (m : List Int) (hm : m.length ≤ 1048576) : FnOK Try.prog 94 [.d (ints m)] (rb (wholeB m)) := by
  have c1 := c_impl_MemoryFault m hm
  generalize hv : wholeB m = v
  unfold wholeB at hv
  generalize memFault m = e at *
  refine fn_of lv94 Try.func94 rfl rfl (by kernel_rfl) rfl ?_
  refine .inl ⟨_, _, rfl, c1, rfl, ?_⟩
  repeat' (first | refine bsplit_true ?_ | refine bsplit_false ?_ | refine bsplit_intro (fun h => ?_) (fun h => ?_))
  all_goals refine ⟨⟨congrArg Value.bool ?_, trivial⟩, rfl⟩
  all_goals simp_all
def laneWords (x : PolM) (m : List Int) (i : Int) : Int × List Int := if polFault x = 0 then (bif !inR i 0 ((x.lns.length : Int) - 1) then (4, []) else bif !wholeB m then (1, []) else (0, pageW m (x.lns.getD i.toNat ⟨0, 0, 0, 0, 0⟩).page)) else (polFault x, [])
theorem laneWords_few (x : PolM) (m : List Int) (i : Int) : (laneWords x m i).2.length ≤ 1048576 := by
  have h8 : ∀ p, (pageW m p).length ≤ 8 := fun p => by unfold pageW; rw [List.length_take]; omega
  unfold laneWords
  split
  · cases inR i 0 ((x.lns.length : Int) - 1) with
    | false => simp
    | true =>
      cases wholeB m with
      | false => simp
      | true => show (pageW m _).length ≤ _; have := h8 (x.lns.getD i.toNat ⟨0, 0, 0, 0, 0⟩).page; omega
  · simp
theorem lanesBad_page {own : List (List Int)} : ∀ {l ahead : List LaneM}, lanesBad own ahead l = 0 → ∀ m ∈ l, inR m.page 0 23 = true
  | [], _, _, m, hm => by simp at hm
  | a :: l, ahead, h, m, hm => by
    simp only [lanesBad] at h
    split at h
    · rename_i hb
      rcases List.mem_cons.1 hm with rfl | hm
      · unfold laneBad at hb
        split at hb
        · cases hp : inR m.page 0 23 with
          | true => rfl
          | false => rw [hp] at hb; simp at hb
        · rename_i e; exact absurd hb e
      · exact lanesBad_page h m hm
    · rename_i e; exact absurd h e
theorem pol_lanes {x : PolM} (h : polFault x = 0) : lanesBad x.own [] x.lns = 0 := by
  unfold polFault at h
  split at h
  · cases hq : (decide (x.lns.length > 4) || decide (x.bls.length > 4)) with
    | true => rw [hq] at h; simp at h
    | false =>
      rw [hq, cond_false] at h
      split at h
      · assumption
      · rename_i e; exact absurd h e
  · rename_i e; exact absurd h e
theorem lane_page {x : PolM} (h : polFault x = 0) {i : Int} (hi : inR i 0 ((x.lns.length : Int) - 1) = true) {m : List Int} (hm : wholeB m = true) : 0 ≤ i ∧ i < x.lns.length ∧ 0 ≤ (x.lns.getD i.toNat ⟨0, 0, 0, 0, 0⟩).page ∧ (x.lns.getD i.toNat ⟨0, 0, 0, 0, 0⟩).page ≤ 23 ∧ ((x.lns.getD i.toNat ⟨0, 0, 0, 0, 0⟩).page + 1) * 8 ≤ (m.length : Int) := by
  have h1 := inR_iff.1 hi
  have h2 : i.toNat < x.lns.length := by omega
  have h3 := inR_iff.1 (lanesBad_page (pol_lanes h) (x.lns.getD i.toNat ⟨0, 0, 0, 0, 0⟩) (by rw [getD_at _ h2]; exact List.getElem_mem h2))
  have h4 : (m.length : Int) = 192 := by
    unfold wholeB at hm
    rw [Bool.and_eq_true] at hm
    simpa using hm.2
  omega
end Go.Proofs.Ytojaakpnpdnbhaa.L
