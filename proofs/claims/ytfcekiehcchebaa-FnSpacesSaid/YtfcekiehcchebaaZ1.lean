/- The symbolic logic and the contracts that the proof leans on, part 1. -/
import Derived.Test.YtfcekiehcchebaaLt
import Derived.Test.YtfcekiehcchebaaLr
import Derived.Test.YtfcekiehcchebaaLs
import Derived.Test.YtfcekiehcchebaaLy
import Derived.Test.YtfcekiehcchebaaMd
/- What the functions over words and rows of words compute: contracts, for rows that fit into memory. -/
set_option linter.unusedVariables false
set_option linter.unusedSimpArgs false
set_option maxRecDepth 100000
namespace Go.Proofs.Ytfcekiehcchebaa.L
open Go.RowKit
abbrev dv (v : Value) : LV := .d (.v v)
abbrev di (n : Int) : LV := .d (.v (.int .i64 n))
abbrev rb (b : Bool) : RV := .r (.one (.v (.bool b)))
abbrev ri (n : Int) : RV := .r (.one (.v (.int .i64 n)))
abbrev ints (l : List Int) : D := .l l.length fun i => [.v (.int .i64 (l.getD i 0))]

def inR (n a b : Int) : Bool := decide (a ≤ n) && decide (n ≤ b)
def isW (n : Int) : Bool := inR n 0 4294967295
theorem eqv {α : Type} {f : α → Value} {a b : α} (h : a = b) : f a = f b := by rw [h]

theorem c_impl_within (n a b : Int) : FnOK Try.prog 80 [di n, di a, di b] (rb (inR n a b)) := by
  refine fn_of lv80 Try.func80 rfl rfl rfl rfl ?_
  refine bsplit_intro (fun h => ?_) (fun h => ?_)
  · repeat' (first | refine bsplit_true ?_ | refine bsplit_false ?_)
    refine ⟨⟨congrArg Value.bool (?_ : decide (n ≤ b) = _), trivial⟩, rfl⟩
    simp at h; simp [inR, h]
  · repeat' (first | refine bsplit_true ?_ | refine bsplit_false ?_)
    refine ⟨⟨congrArg Value.bool (?_ : false = _), trivial⟩, rfl⟩
    simp at h; simp [inR]; omega
theorem c_spec_l1In (n a b : Int) : FnOK Try.prog 77 [di n, di a, di b] (rb (inR n a b)) := by
  refine fn_of lv77 Try.func77 rfl rfl rfl rfl ?_
  refine bsplit_intro (fun h => ?_) (fun h => ?_)
  · repeat' (first | refine bsplit_true ?_ | refine bsplit_false ?_)
    refine ⟨⟨congrArg Value.bool (?_ : decide (n ≤ b) = _), trivial⟩, rfl⟩
    simp at h; simp [inR, h]
  · repeat' (first | refine bsplit_true ?_ | refine bsplit_false ?_)
    refine ⟨⟨congrArg Value.bool (?_ : false = _), trivial⟩, rfl⟩
    simp at h; simp [inR]; omega

theorem c_impl_isWord (n : Int) : FnOK Try.prog 91 [di n] (rb (isW n)) := by
  refine fn_of lv91 Try.func91 rfl rfl rfl rfl ?_
  refine .inl ⟨_, _, rfl, c_impl_within _ _ _, rfl, ?_⟩
  exact ⟨⟨rfl, trivial⟩, rfl⟩
theorem c_spec_l8Word (n : Int) : FnOK Try.prog 119 [di n] (rb (isW n)) := by
  refine fn_of lv119 Try.func119 rfl rfl rfl rfl ?_
  refine .inl ⟨_, _, rfl, c_spec_l1In _ _ _, rfl, ?_⟩
  exact ⟨⟨rfl, trivial⟩, rfl⟩
theorem c_impl_areWords_1 (n : Int) : FnOK Try.prog 133 [di n] (rb (!isW n)) := by
  refine fn_of lv133 Try.func133 rfl rfl rfl rfl ?_
  refine .inl ⟨_, _, rfl, c_impl_isWord _, rfl, ?_⟩
  exact ⟨⟨rfl, trivial⟩, rfl⟩

theorem drop_all (l : List Int) (p : Int → Bool) (i : Nat) (h : i < l.length) : (l.drop i).all p = (p (l.getD i 0) && (l.drop (i + 1)).all p) := by
  rw [List.drop_eq_getElem_cons h, List.all_cons]
  simp [List.getD, List.getElem?_eq_getElem h]
theorem wrap_i64 (n : Int) (h1 : -9223372036854775808 ≤ n) (h2 : n < 9223372036854775808) : IntKind.i64.wrap n = n := by rw [IntKind.wrap_i64]; omega

theorem c_spec_l8All (l : List Int) (hl : l.length ≤ 9223372036854775807) : FnOK Try.prog 90 [.d (ints l)] (rb (l.all isW)) := by
  refine fn_of lv90 Try.func90 rfl rfl rfl rfl ?_
  refine ⟨{ i : Nat // i ≤ l.length ∧ (l.drop i).all isW = l.all isW }, fun i => ⟨frL [(0, .d (ints l)), (3, di i.1)], hpL [], 0, 0⟩, fun i => l.length - i.1, ⟨0, by simp⟩, le_of [] rfl rfl rfl rfl trivial (tellFr_d rfl (DLe.refl _) (tellFr_v rfl rfl trivial)), ?_⟩
  rintro ⟨i, hi, hall⟩
  refine bsplit_intro (fun h => ?_) (fun h => ?_)
  · have h : i < l.length := by simp at h; exact h
    refine ask_intro ⟨by omega, by simp; omega, rfl⟩ ?_
    refine .inl ⟨_, _, rfl, c_spec_l8Word _, rfl, ?_⟩
    refine bsplit_intro (fun h2 => ?_) (fun h2 => ?_)
    · refine ⟨⟨congrArg Value.bool (?_ : false = _), trivial⟩, rfl⟩
      have h2 : isW (l.getD i 0) = false := by simpa using h2
      rw [← hall, drop_all l isW i h, h2]; rfl
    · have h2 : isW (l.getD i 0) = true := by simpa using h2
      refine ⟨⟨i + 1, by omega, ?_⟩, le_of [] rfl rfl rfl rfl trivial (tellFr_d rfl (DLe.refl _) (tellFr_v rfl (congrArg (Value.int .i64) (?_ : IntKind.i64.wrap ((i : Int) + 1) = ((i + 1 : Nat) : Int))) trivial)), ?_⟩
      · rw [← hall, drop_all l isW i h, h2]; rfl
      · exact wrap_i64 (i + 1) (by omega) (by omega)
      · show l.length - (i + 1) < l.length - i
        omega
  · refine ⟨⟨congrArg Value.bool (?_ : true = _), trivial⟩, rfl⟩
    simp at h
    rw [← hall, List.drop_eq_nil_of_le h]; rfl
theorem c_laws_szInt64S (l : List Int) (q : Int) (hq : -9223372036854775808 ≤ q - l.length) (hq2 : q - l.length < 9223372036854775808) : FnOK Try.prog 69 [.d (ints l), di q] (ri (if q - l.length < 0 then -1 else q - l.length)) := by
  refine fn_of lv69 Try.func69 rfl rfl rfl rfl ?_
  refine bsplit_intro (fun h => ?_) (fun h => ?_)
  · refine ⟨⟨congrArg (Value.int .i64) (?_ : (-1 : Int) = _), trivial⟩, rfl⟩
    rw [wrap_i64 _ hq hq2] at h
    simp only [decide_eq_true_eq] at h
    rw [if_pos h]
  · refine ⟨⟨congrArg (Value.int .i64) (?_ : IntKind.i64.wrap (q - l.length) = _), trivial⟩, rfl⟩
    rw [wrap_i64 _ hq hq2] at h ⊢
    simp only [decide_eq_false_iff_not] at h
    rw [if_neg h]
theorem drop_any (l : List Int) (p : Int → Bool) (i : Nat) (h : i < l.length) : (l.drop i).any p = (p (l.getD i 0) || (l.drop (i + 1)).any p) := by
  rw [List.drop_eq_getElem_cons h, List.any_cons]
  simp [List.getD, List.getElem?_eq_getElem h]
def idxOf (l : List Int) (p : Int → Bool) (i : Nat) : Int := bif (l.drop i).any p then (((l.drop i).findIdx p + i : Nat) : Int) else -1
theorem idx_hit {l : List Int} {p : Int → Bool} {i : Nat} (h : i < l.length) (hp : p (l.getD i 0) = true) : idxOf l p i = i := by
  unfold idxOf
  rw [drop_any l p i h, hp, List.drop_eq_getElem_cons h]
  have : p l[i] = true := by simpa [List.getD, List.getElem?_eq_getElem h] using hp
  rw [List.findIdx_cons, this]
  simp
theorem idx_miss {l : List Int} {p : Int → Bool} {i : Nat} (h : i < l.length) (hp : p (l.getD i 0) = false) : idxOf l p i = idxOf l p (i + 1) := by
  unfold idxOf
  rw [drop_any l p i h, hp, Bool.false_or, List.drop_eq_getElem_cons h]
  have : p l[i] = false := by simpa [List.getD, List.getElem?_eq_getElem h] using hp
  cases (List.drop (i + 1) l).any p with
  | false => rfl
  | true =>
    simp only [cond_true, List.findIdx_cons, this, cond_false]
    omega
theorem idx_end {l : List Int} {p : Int → Bool} {i : Nat} (h : l.length ≤ i) : idxOf l p i = -1 := by
  unfold idxOf
  rw [List.drop_eq_nil_of_le h]; rfl

theorem c_slices_IndexFunc (g : Nat) (p : Int → Bool) (hg : ∀ n, FnOK Try.prog g [di n] (rb (p n))) (l : List Int) (hl : l.length ≤ 9223372036854775807) : FnOK Try.prog 150 [.d (ints l), .fn g []] (ri (idxOf l p 0)) := by
  refine fn_of lv150 Try.func150 rfl rfl rfl rfl ?_
  refine ⟨{ i : Nat // i ≤ l.length ∧ idxOf l p i = idxOf l p 0 }, fun i => ⟨frL [(0, .d (ints l)), (1, .fn g []), (7, di l.length), (8, di i.1)], hpL [], 0, 0⟩, fun i => l.length - i.1, ⟨0, by simp⟩,
    le_of [] rfl rfl rfl rfl trivial (tellFr_d rfl (DLe.refl _) (tellFr_fn rfl trivial (tellFr_v rfl rfl (tellFr_v rfl rfl trivial)))), ?_⟩
  rintro ⟨i, hi, hall⟩
  refine bsplit_intro (fun h => ?_) (fun h => ?_)
  · have h : i < l.length := by simp at h; exact h
    refine ask_intro ⟨by omega, by simp; omega, rfl⟩ ?_
    refine .inl ⟨_, _, rfl, hg _, rfl, ?_⟩
    refine bsplit_intro (fun h2 => ?_) (fun h2 => ?_)
    · refine ⟨⟨congrArg (Value.int .i64) (?_ : (i : Int) = _), trivial⟩, rfl⟩
      rw [← hall]; exact (idx_hit h h2).symm
    · refine ⟨⟨i + 1, by omega, ?_⟩, le_of [] rfl rfl rfl rfl trivial (tellFr_d rfl (DLe.refl _) (tellFr_fn rfl trivial (tellFr_v rfl rfl (tellFr_v rfl (congrArg (Value.int .i64) (?_ : IntKind.i64.wrap ((i : Int) + 1) = ((i + 1 : Nat) : Int))) trivial)))), ?_⟩
      · rw [← hall]; exact (idx_miss h h2).symm
      · exact wrap_i64 (i + 1) (by omega) (by omega)
      · show l.length - (i + 1) < l.length - i
        omega
  · refine ⟨⟨congrArg (Value.int .i64) (?_ : (-1 : Int) = _), trivial⟩, rfl⟩
    simp at h
    rw [← hall, idx_end h]
theorem c_slices_ContainsFunc (g : Nat) (p : Int → Bool) (hg : ∀ n, FnOK Try.prog g [di n] (rb (p n))) (l : List Int) (hl : l.length ≤ 9223372036854775807) : FnOK Try.prog 132 [.d (ints l), .fn g []] (rb (l.any p)) := by
  refine fn_of lv132 Try.func132 rfl rfl rfl rfl ?_
  refine .inl ⟨_, _, rfl, c_slices_IndexFunc g p hg _ hl, rfl, ?_⟩
  refine ⟨⟨congrArg Value.bool (?_ : decide (idxOf l p 0 ≥ 0) = _), trivial⟩, rfl⟩
  unfold idxOf
  rw [List.drop_zero]
  cases l.any p <;> simp
theorem c_impl_areWords (l : List Int) (hl : l.length ≤ 9223372036854775807) : FnOK Try.prog 89 [.d (ints l)] (rb (l.all isW)) := by
  refine fn_of lv89 Try.func89 rfl rfl rfl rfl ?_
  refine .inl ⟨_, _, rfl, c_slices_ContainsFunc 133 (fun n => !isW n) c_impl_areWords_1 _ hl, rfl, ?_⟩
  refine ⟨⟨congrArg Value.bool (?_ : (!(l.any fun n => !isW n)) = _), trivial⟩, rfl⟩
  rw [List.all_eq_not_any_not]
theorem c_slices_Clone (l : List Int) (hl : l.length * 8 ≤ 140737488355328) : FnOK Try.prog 121 [.d (ints l)] (.r (.one (.own 2 1 l.length fun i => [.v (.int .i64 (l.getD i 0))]))) := by
  refine fn_of lv121 Try.func121 rfl rfl rfl rfl ?_
  rintro r hr
  cases r with
  | true =>
    refine bsplit_true ?_
    have : l.length = 0 := by
      rcases Nat.eq_zero_or_pos l.length with h | h
      · exact h
      · exact absurd (hr h) (by simp)
    exact ⟨⟨⟨this, rfl⟩, trivial⟩, rfl⟩
  | false =>
    refine bsplit_false ?_
    refine ask_intro ⟨by show (0 + l.length) * 8 ≤ 140737488355328; omega, by omega, fun i hi => rfl⟩ ?_
    refine ⟨⟨⟨rfl, rfl, ?_, fun i hi => ⟨?_, rfl⟩⟩, trivial⟩, rfl⟩
    · exact Nat.zero_add _
    · rfl
abbrev intsF (l : List Int) (i : Nat) : List D := [.v (.int .i64 (l.getD i 0))]
abbrev oInts (l : List Int) : RC := .own 2 1 l.length (intsF l)
theorem c_laws_toInt64S (l : List Int) (hl : l.length * 8 ≤ 140737488355328) : FnOK Try.prog 46 [.d (ints l)] (.r (.one (oInts l))) := by
  refine fn_of lv46 Try.func46 rfl rfl rfl rfl ?_
  refine ask_intro ⟨rfl, by omega, by show (l.length : Int) * 8 ≤ 140737488355328; omega, by omega⟩ ?_
  refine ⟨{ i : Nat // i ≤ l.length }, fun i => ⟨frL [(0, .d (ints l)), (3, .row 96), (4, di i.1)], hpL [(96, .row 2 1 l.length fun j => if j < i.1 then intsF l j else [.v (.int .i64 0)])], 97, 0⟩, fun i => l.length - i.1, ⟨0, by omega⟩,
    le_of [(96, 4160)] rfl rfl rfl rfl (tellHp_row rfl rfl rfl (fun i hi => rfl) tellHp_nil) (tellFr_d rfl (DLe.refl _) (tellFr_row rfl rfl (tellFr_v rfl rfl trivial))), ?_⟩
  rintro ⟨i, hi⟩
  refine bsplit_intro (fun h => ?_) (fun h => ?_)
  · have h : i < l.length := by simp at h; exact h
    refine ask_intro ⟨by omega, by simp; omega, rfl⟩ ?_
    refine ask_intro ⟨by omega, by simp; omega⟩ ?_
    refine ask_intro (by show i < l.length; exact h) ?_
    refine ⟨⟨i + 1, by omega⟩, le_of [(96, 96)] rfl rfl rfl rfl (tellHp_row rfl rfl rfl (fun j hj => ?_) tellHp_nil) (tellFr_d rfl (DLe.refl _) (tellFr_row rfl rfl (tellFr_v rfl (congrArg (Value.int .i64) (?_ : IntKind.i64.wrap ((i : Int) + 1) = ((i + 1 : Nat) : Int))) trivial))), ?_⟩
    · show (if j = i then _ else if j < i then intsF l j else [.v (.int .i64 0)]) = if j < i + 1 then intsF l j else [.v (.int .i64 0)]
      by_cases h1 : j = i
      · subst h1
        rw [if_pos rfl, if_pos (by omega)]
        simp [splice, intsF]
      · rw [if_neg h1]
        by_cases h2 : j < i
        · rw [if_pos h2, if_pos (by omega)]
        · rw [if_neg h2, if_neg (by omega)]
    · exact wrap_i64 (i + 1) (by omega) (by omega)
    · show l.length - (i + 1) < l.length - i
      omega
  · simp at h
    refine ⟨⟨⟨rfl, rfl, rfl, fun j hj => ⟨?_, rfl⟩⟩, trivial⟩, rfl⟩
    show (if j < i then intsF l j else _) = _
    rw [if_pos (by omega)]
theorem drop_cons (l : List Int) (i : Nat) (h : i < l.length) : l.drop i = l.getD i 0 :: l.drop (i + 1) :=
  (List.drop_eq_getElem_cons h).trans (by rw [show l[i] = l.getD i 0 by simp [List.getD, List.getElem?_eq_getElem h]])
theorem c_laws_eqInt64S (l m : List Int) (hl : l.length ≤ 9223372036854775807) : FnOK Try.prog 50 [.d (ints l), .d (ints m)] (rb (l == m)) := by
  refine fn_of lv50 Try.func50 rfl rfl rfl rfl ?_
  refine bsplit_intro (fun h => ?_) (fun h => ?_)
  · refine ⟨⟨congrArg Value.bool (?_ : false = _), trivial⟩, rfl⟩
    simp at h
    symm
    rw [beq_eq_false_iff_ne]
    rintro rfl
    exact h rfl
  have hlen : l.length = m.length := by simp at h; omega
  refine ⟨{ i : Nat // i ≤ l.length ∧ (l.drop i == m.drop i) = (l == m) }, fun i => ⟨frL [(0, .d (ints l)), (1, .d (ints m)), (5, di i.1)], hpL [], 0, 0⟩, fun i => l.length - i.1, ⟨0, by simp⟩,
    le_of [] rfl rfl rfl rfl trivial (tellFr_d rfl (DLe.refl _) (tellFr_d rfl (DLe.refl _) (tellFr_v rfl rfl trivial))), ?_⟩
  rintro ⟨i, hi, hall⟩
  refine bsplit_intro (fun h => ?_) (fun h => ?_)
  · have h : i < l.length := by simp at h; exact h
    have hd : (l.drop i == m.drop i) = ((l.getD i 0 == m.getD i 0) && (l.drop (i + 1) == m.drop (i + 1))) := by
      rw [drop_cons l i h, drop_cons m i (by omega)]
      exact List.cons_beq_cons
    refine ask_intro ⟨by omega, by simp; omega, rfl⟩ ?_
    refine ask_intro ⟨by omega, by simp; omega, rfl⟩ ?_
    refine chk_intro rfl ?_
    refine bsplit_intro (fun h2 => ?_) (fun h2 => ?_)
    · refine ⟨⟨congrArg Value.bool (?_ : false = _), trivial⟩, rfl⟩
      have h2 : (l.getD i 0 != m.getD i 0) = true := h2
      rw [← hall, hd]
      have h2 : (l.getD i 0 == m.getD i 0) = false := by simpa [bne] using h2
      rw [h2]; rfl
    · have h2 : (l.getD i 0 != m.getD i 0) = false := h2
      refine ⟨⟨i + 1, by omega, ?_⟩, le_of [] rfl rfl rfl rfl trivial (tellFr_d rfl (DLe.refl _) (tellFr_d rfl (DLe.refl _) (tellFr_v rfl (congrArg (Value.int .i64) (?_ : IntKind.i64.wrap ((i : Int) + 1) = ((i + 1 : Nat) : Int))) trivial))), ?_⟩
      · rw [← hall, hd]
        have h2 : (l.getD i 0 == m.getD i 0) = true := by simpa [bne] using h2
        rw [h2]; rfl
      · exact wrap_i64 (i + 1) (by omega) (by omega)
      · show l.length - (i + 1) < l.length - i
        omega
  · refine ⟨⟨congrArg Value.bool (?_ : true = _), trivial⟩, rfl⟩
    simp at h
    rw [← hall, List.drop_eq_nil_of_le h, List.drop_eq_nil_of_le (by omega)]; rfl
end Go.Proofs.Ytfcekiehcchebaa.L

/- What the functions that look at a machine compute: contracts, for machines that fit into memory. -/
set_option linter.unusedVariables false
set_option linter.unusedSimpArgs false
set_option maxRecDepth 100000
namespace Go.Proofs.Ytfcekiehcchebaa.L
open Go.RowKit
structure HartM where
  regs : List Int
  pc : Int
  csr : List Int
  halted : Bool
  waiting : Bool
  rung : Bool
  done : Int
  inp : List Int
  out : List Int
  deriving DecidableEq
abbrev dI (n : Int) : D := .v (.int .i64 n)
abbrev dB (n : Bool) : D := .v (.bool n)
abbrev hartD (h : HartM) : List D := [ints h.regs, dI h.pc, ints h.csr, dB h.halted, dB h.waiting, dB h.rung, dI h.done, ints h.inp, ints h.out]
abbrev hartLV (h : HartM) : LV := .agg [.d (ints h.regs), di h.pc, .d (ints h.csr), dv (.bool h.halted), dv (.bool h.waiting), dv (.bool h.rung), di h.done, .d (ints h.inp), .d (ints h.out)]
abbrev hartR (h : HartM) : RV1 := .agg [oInts h.regs, .v (.int .i64 h.pc), oInts h.csr, .v (.bool h.halted), .v (.bool h.waiting), .v (.bool h.rung), .v (.int .i64 h.done), oInts h.inp, oInts h.out]

structure HartM.small (h : HartM) : Prop where
  regs : h.regs.length * 8 ≤ 140737488355328
  csr : h.csr.length * 8 ≤ 140737488355328
  inp : h.inp.length * 8 ≤ 140737488355328
  out : h.out.length * 8 ≤ 140737488355328

theorem c_laws_toHart (h : HartM) (hs : h.small) : FnOK Try.prog 20 [hartLV h] (.r (hartR h)) := by
  refine fn_of lv20 Try.func20 rfl rfl rfl rfl ?_
  refine .inl ⟨_, _, rfl, c_laws_toInt64S _ hs.regs, rfl, ?_⟩
  refine .inl ⟨_, _, rfl, c_laws_toInt64S _ hs.csr, rfl, ?_⟩
  refine .inl ⟨_, _, rfl, c_laws_toInt64S _ hs.inp, rfl, ?_⟩
  refine .inl ⟨_, _, rfl, c_laws_toInt64S _ hs.out, rfl, ?_⟩
  refine ⟨⟨?_, ?_, ?_, ?_, ?_, ?_, ?_, ?_, ?_, trivial⟩, rfl⟩
  · exact ⟨rfl, rfl, rfl, fun i hi => ⟨rfl, rfl⟩⟩
  · rfl
  · exact ⟨rfl, rfl, rfl, fun i hi => ⟨rfl, rfl⟩⟩
  · rfl
  · rfl
  · rfl
  · rfl
  · exact ⟨rfl, rfl, rfl, fun i hi => ⟨rfl, rfl⟩⟩
  · exact ⟨rfl, rfl, rfl, fun i hi => ⟨rfl, rfl⟩⟩
theorem HartM.small.lens {h : HartM} (hs : h.small) : h.regs.length ≤ 9223372036854775807 ∧ h.csr.length ≤ 9223372036854775807 ∧ h.inp.length ≤ 9223372036854775807 ∧ h.out.length ≤ 9223372036854775807 := by
  obtain ⟨h1, h2, h3, h4⟩ := hs
  omega

def hFault (h : HartM) : Int :=
  bif ((h.regs.length : Int) != 16) || (((h.csr.length : Int) != 11) || (h.regs.getD 0 0 != 0)) then 1 else
  bif !(h.regs.all isW) || (!(isW h.pc) || (!(h.csr.all isW) || (!(h.inp.all isW) || !(h.out.all isW)))) then 3 else
  bif decide ((h.inp.length : Int) > 40) || decide ((h.out.length : Int) > 40) then 2 else
  bif !(inR h.done 0 1000000000) then 3 else
  bif decide (h.csr.getD 0 0 > 3) || (decide (h.csr.getD 7 0 > 7) || (decide (h.csr.getD 10 0 > 8) || ((h.csr.getD 6 0 != 0) || (h.csr.getD 8 0 != 0)))) then 1 else 0

theorem c_spec_l8Fault (m : HartM) (hs : m.small) : FnOK Try.prog 70 [.dptr (hartD m)] (ri (hFault m)) := by
  obtain ⟨q1, q2, q3, q4⟩ := hs.lens
  refine fn_of lv70 Try.func70 rfl rfl rfl rfl ?_
  refine bsplit_intro (fun h1 => ?_) (fun h1 => ?_)
  · repeat' (first | refine bsplit_true ?_ | refine bsplit_false ?_)
    refine ⟨⟨congrArg (Value.int .i64) (?_ : (1 : Int) = _), trivial⟩, rfl⟩
    simp only [hFault, h1, Bool.true_or, cond_true]
  repeat' (first | refine bsplit_true ?_ | refine bsplit_false ?_)
  refine bsplit_intro (fun h2 => ?_) (fun h2 => ?_)
  · repeat' (first | refine bsplit_true ?_ | refine bsplit_false ?_)
    refine ⟨⟨congrArg (Value.int .i64) (?_ : (1 : Int) = _), trivial⟩, rfl⟩
    simp only [hFault, h1, h2, Bool.true_or, Bool.or_true, cond_true]
  have e1 : m.regs.length = 16 := by simp at h1; omega
  have e2 : m.csr.length = 11 := by simp at h2; omega
  repeat' (first | refine bsplit_true ?_ | refine bsplit_false ?_)
  refine ask_intro ⟨by omega, by show (0 : Int) < m.regs.length; omega, rfl⟩ ?_
  repeat' (first | refine bsplit_true ?_ | refine bsplit_false ?_)
  refine bsplit_intro (fun h3 => ?_) (fun h3 => ?_)
  · refine ⟨⟨congrArg (Value.int .i64) (?_ : (1 : Int) = _), trivial⟩, rfl⟩
    have h3 : (m.regs.getD 0 0 != 0) = true := h3
    simp only [hFault, h3, Bool.true_or, Bool.or_true, cond_true]
  have h3 : (m.regs.getD 0 0 != 0) = false := h3
  all_goals repeat' (first | refine bsplit_true ?_ | refine bsplit_false ?_ | refine .inl ⟨_, _, rfl, c_spec_l8All _ (by assumption), rfl, ?_⟩ | refine .inl ⟨_, _, rfl, c_spec_l8Word _, rfl, ?_⟩ | refine .inl ⟨_, _, rfl, c_spec_l1In _ _ _, rfl, ?_⟩ | refine bsplit_intro (fun h => ?_) (fun h => ?_) | refine ask_intro ⟨by omega, by show (_ : Int) < m.csr.length; omega, rfl⟩ ?_)
  all_goals refine ⟨⟨congrArg (Value.int .i64) ?_, trivial⟩, rfl⟩
  all_goals clear e1 e2
  all_goals simp only [Int.reduceToNat] at *
  all_goals simp only [hFault, *, Bool.true_or, Bool.or_true, Bool.false_or, Bool.or_self, cond_true, cond_false]
theorem c_impl_HartFault (m : HartM) (hs : m.small) : FnOK Try.prog 33 [hartLV m] (ri (hFault m)) := by
  obtain ⟨q1, q2, q3, q4⟩ := hs.lens
  refine fn_of lv33 Try.func33 rfl rfl rfl rfl ?_
  refine bsplit_intro (fun h1 => ?_) (fun h1 => ?_)
  · repeat' (first | refine bsplit_true ?_ | refine bsplit_false ?_)
    refine ⟨⟨congrArg (Value.int .i64) (?_ : (1 : Int) = _), trivial⟩, rfl⟩
    simp only [hFault, h1, Bool.true_or, cond_true]
  repeat' (first | refine bsplit_true ?_ | refine bsplit_false ?_)
  refine bsplit_intro (fun h2 => ?_) (fun h2 => ?_)
  · repeat' (first | refine bsplit_true ?_ | refine bsplit_false ?_)
    refine ⟨⟨congrArg (Value.int .i64) (?_ : (1 : Int) = _), trivial⟩, rfl⟩
    simp only [hFault, h1, h2, Bool.true_or, Bool.or_true, cond_true]
  have e1 : m.regs.length = 16 := by simp at h1; omega
  have e2 : m.csr.length = 11 := by simp at h2; omega
  repeat' (first | refine bsplit_true ?_ | refine bsplit_false ?_)
  refine ask_intro ⟨by omega, by show (0 : Int) < m.regs.length; omega, rfl⟩ ?_
  repeat' (first | refine bsplit_true ?_ | refine bsplit_false ?_)
  refine bsplit_intro (fun h3 => ?_) (fun h3 => ?_)
  · repeat' (first | refine bsplit_true ?_ | refine bsplit_false ?_)
    refine ⟨⟨congrArg (Value.int .i64) (?_ : (1 : Int) = _), trivial⟩, rfl⟩
    have h3 : (m.regs.getD 0 0 != 0) = true := h3
    simp only [hFault, h3, Bool.true_or, Bool.or_true, cond_true]
  have h3 : (m.regs.getD 0 0 != 0) = false := h3
  all_goals repeat' (first | refine bsplit_true ?_ | refine bsplit_false ?_ | refine .inl ⟨_, _, rfl, c_impl_areWords _ (by assumption), rfl, ?_⟩ | refine .inl ⟨_, _, rfl, c_impl_isWord _, rfl, ?_⟩ | refine .inl ⟨_, _, rfl, c_impl_within _ _ _, rfl, ?_⟩ | refine bsplit_intro (fun h => ?_) (fun h => ?_) | refine ask_intro ⟨by omega, by show (_ : Int) < m.csr.length; omega, rfl⟩ ?_)
  all_goals refine ⟨⟨congrArg (Value.int .i64) ?_, trivial⟩, rfl⟩
  all_goals clear e1 e2
  all_goals simp only [Int.reduceToNat] at *
  all_goals simp only [hFault, *, Bool.true_or, Bool.or_true, Bool.false_or, Bool.or_self, cond_true, cond_false]

def hSz (m : HartM) (q : Int) : Int :=
  let q1 := q - m.regs.length
  let q2 := q1 - m.csr.length
  let q3 := q2 - m.inp.length
  let q4 := q3 - m.out.length
  if q1 < 0 ∨ q2 < 0 ∨ q3 < 0 ∨ q4 < 0 then -1 else q4
theorem c_laws_szInt64Sn (l : List Int) (q : Int) (hq : -9223372036854775808 ≤ q - l.length) (h : q - l.length < 0) : FnOK Try.prog 69 [.d (ints l), di q] (ri (-1)) := by
  have := c_laws_szInt64S l q hq (by omega)
  rwa [if_pos h] at this
theorem c_laws_szInt64Sp (l : List Int) (q : Int) (hq : q - l.length < 9223372036854775808) (h : ¬ q - l.length < 0) : FnOK Try.prog 69 [.d (ints l), di q] (ri (q - l.length)) := by
  have := c_laws_szInt64S l q (by omega) hq
  rwa [if_neg h] at this
theorem c_laws_szHart (m : HartM) (hs : m.small) (q : Int) (hq : 0 ≤ q) (hq2 : q ≤ 1048576) : FnOK Try.prog 18 [hartLV m, di q] (ri (hSz m q)) := by
  obtain ⟨l1, l2, l3, l4⟩ := hs.lens
  refine fn_of lv18 Try.func18 rfl rfl rfl rfl ?_
  unfold hSz
  by_cases h1 : q - m.regs.length < 0
  · refine .inl ⟨_, _, rfl, c_laws_szInt64Sn _ q (by omega) h1, rfl, ?_⟩
    repeat' (first | refine bsplit_true ?_ | refine bsplit_false ?_)
    exact ⟨⟨congrArg (Value.int .i64) (if_pos (.inl h1)).symm, trivial⟩, rfl⟩
  refine .inl ⟨_, _, rfl, c_laws_szInt64Sp _ q (by omega) h1, rfl, bsplit_of_false (decide_eq_false h1) ?_⟩
  by_cases h2 : q - m.regs.length - m.csr.length < 0
  · refine .inl ⟨_, _, rfl, c_laws_szInt64Sn _ _ (by omega) h2, rfl, ?_⟩
    repeat' (first | refine bsplit_true ?_ | refine bsplit_false ?_)
    exact ⟨⟨congrArg (Value.int .i64) (if_pos (.inr (.inl h2))).symm, trivial⟩, rfl⟩
  refine .inl ⟨_, _, rfl, c_laws_szInt64Sp _ _ (by omega) h2, rfl, bsplit_of_false (decide_eq_false h2) ?_⟩
  by_cases h3 : q - m.regs.length - m.csr.length - m.inp.length < 0
  · refine .inl ⟨_, _, rfl, c_laws_szInt64Sn _ _ (by omega) h3, rfl, ?_⟩
    repeat' (first | refine bsplit_true ?_ | refine bsplit_false ?_)
    exact ⟨⟨congrArg (Value.int .i64) (if_pos (.inr (.inr (.inl h3)))).symm, trivial⟩, rfl⟩
  refine .inl ⟨_, _, rfl, c_laws_szInt64Sp _ _ (by omega) h3, rfl, bsplit_of_false (decide_eq_false h3) ?_⟩
  by_cases h4 : q - m.regs.length - m.csr.length - m.inp.length - m.out.length < 0
  · refine .inl ⟨_, _, rfl, c_laws_szInt64Sn _ _ (by omega) h4, rfl, ?_⟩
    repeat' (first | refine bsplit_true ?_ | refine bsplit_false ?_)
    exact ⟨⟨congrArg (Value.int .i64) (if_pos (.inr (.inr (.inr h4)))).symm, trivial⟩, rfl⟩
  refine .inl ⟨_, _, rfl, c_laws_szInt64Sp _ _ (by omega) h4, rfl, bsplit_of_false (decide_eq_false h4) ?_⟩
  exact ⟨⟨congrArg (Value.int .i64) (if_neg (by rintro (h | h | h | h) <;> contradiction)).symm, trivial⟩, rfl⟩

theorem c_laws_eqHart (m n : HartM) (hs : m.small) : FnOK Try.prog 23 [hartLV m, hartLV n] (rb (decide (m = n))) := by
  obtain ⟨l1, l2, l3, l4⟩ := hs.lens
  refine fn_of lv23 Try.func23 rfl rfl rfl rfl ?_
  repeat' (first | refine bsplit_true ?_ | refine bsplit_false ?_ | refine .inl ⟨_, _, rfl, c_laws_eqInt64S _ _ (by assumption), rfl, ?_⟩ | refine bsplit_intro (fun h => ?_) (fun h => ?_))
  all_goals refine ⟨⟨congrArg Value.bool ?_, trivial⟩, rfl⟩
  all_goals (obtain ⟨a1, a2, a3, a4, a5, a6, a7, a8, a9⟩ := m; obtain ⟨b1, b2, b3, b4, b5, b6, b7, b8, b9⟩ := n; simp_all)

end Go.Proofs.Ytfcekiehcchebaa.L

/- How a machine, a word, a row of words that a law is handed is read: as data, of a size that a process can hold. -/
set_option linter.unusedVariables false
set_option linter.unusedSimpArgs false
set_option maxRecDepth 100000
namespace Go.Proofs.Ytfcekiehcchebaa.L
open Go.RowKit Go.ChangeShapes Go.WideShapes Go.ChangeAt

theorem own : ownKnob Try.prog.godebug = none := by kernel_rfl
theorem laidOut : laidOutB Try.prog = true := by kernel_rfl
theorem reach_eq : reachBytes = 140737488351232 := by decide
abbrev ok64 (n : Int) : Prop := (Lit.int .i64 n).wf = true
theorem ok64_le {n : Int} (h : ok64 n) : -9223372036854775808 ≤ n ∧ n ≤ 9223372036854775807 := by
  have h' : IntKind.i64.min ≤ n ∧ n ≤ 9223372036854775807 := by simpa [ok64, Lit.wf] using h
  have e : IntKind.i64.min = -9223372036854775808 := by decide
  rw [e] at h'
  exact h'
abbrev okInts (l : List Int) : Prop := l.length * 8 ≤ reachBytes ∧ ∀ x ∈ l, ok64 x

theorem reads_int64 : ReadsT Try.prog 2 1 Int (fun n => [.v (.int .i64 n)]) ok64 := ReadsT.int Try.underlying2 (by kernel_rfl)
theorem reads_bool : ReadsT Try.prog 4 1 Bool (fun n => [.v (.bool n)]) (fun _ => True) := ReadsT.bool Try.underlying4 (by kernel_rfl)
theorem reads_ints : ReadsT Try.prog 22 1 (List Int) (fun l => [ints l]) okInts := ReadsT.slice reads_int64 Try.underlying22 (by kernel_rfl) (by decide) 0 (by kernel_rfl)
structure HartM.ok (h : HartM) : Prop where
  small : h.small
  pc : ok64 h.pc
  done : ok64 h.done
  regs : okInts h.regs
  csr : okInts h.csr
  inp : okInts h.inp
  out : okInts h.out
theorem reads_Hart : ReadsT Try.prog 24 9 HartM hartD HartM.ok := by
  refine (ReadsT.struct (ok := _) Try.underlying24 (by kernel_rfl) (ReadsL.cons reads_ints (.cons reads_int64 (.cons reads_ints (.cons reads_bool (.cons reads_bool (.cons reads_bool (.cons reads_int64 (.cons reads_ints (.cons reads_ints (.nil 9))))))))))).map (fun m => ⟨m.1, m.2.1, m.2.2.1, m.2.2.2.1, m.2.2.2.2.1, m.2.2.2.2.2.1, m.2.2.2.2.2.2.1, m.2.2.2.2.2.2.2.1, m.2.2.2.2.2.2.2.2.1⟩) ?_
  rintro ⟨m1, m2, m3, m4, m5, m6, m7, m8, m9, _⟩ ⟨h1, h2, h3, h4, h5, h6, h7, h8, h9, _⟩
  have e := reach_eq
  have a1 : m1.length * 8 ≤ reachBytes := h1.1
  have a2 : m3.length * 8 ≤ reachBytes := h3.1
  have a3 : m8.length * 8 ≤ reachBytes := h8.1
  have a4 : m9.length * 8 ≤ reachBytes := h9.1
  exact ⟨⟨⟨by show m1.length * 8 ≤ _; omega, by show m3.length * 8 ≤ _; omega, by show m8.length * 8 ≤ _; omega, by show m9.length * 8 ≤ _; omega⟩, h2, h7, h1, h3, h8, h9⟩, rfl⟩
end Go.Proofs.Ytfcekiehcchebaa.L

/- What the functions that ask a machine compute: contracts. -/
set_option linter.unusedVariables false
set_option linter.unusedSimpArgs false
set_option maxRecDepth 100000
namespace Go.Proofs.Ytfcekiehcchebaa.L
open Go.RowKit
abbrev irR (p : Int × Int) : RV1 := .agg [.v (.int .i64 p.1), .v (.int .i64 p.2)]
abbrev irLV (p : Int × Int) : LV := .agg [di p.1, di p.2]

theorem hFault_zero {m : HartM} (h : hFault m = 0) : m.regs.length = 16 ∧ m.csr.length = 11 ∧ m.inp.length ≤ 40 ∧ m.out.length ≤ 40 := by
  unfold hFault at h
  cases h1 : (((m.regs.length : Int) != 16) || (((m.csr.length : Int) != 11) || (m.regs.getD 0 0 != 0))) with
  | true => rw [h1] at h; simp at h
  | false =>
    rw [h1, cond_false] at h
    cases h0 : !m.regs.all isW || (!isW m.pc || (!m.csr.all isW || (!m.inp.all isW || !m.out.all isW))) with
    | true => rw [h0] at h; simp at h
    | false =>
    rw [h0, cond_false] at h
    cases h2 : decide ((m.inp.length : Int) > 40) || decide ((m.out.length : Int) > 40) with
    | true => rw [h2] at h; simp at h
    | false =>
      simp at h1 h2
      omega
theorem fault_ne {m : HartM} (h : (hFault m != 0) = false) : hFault m = 0 := by simpa using h

theorem c_laws_eqIntResult (p q : Int × Int) : FnOK Try.prog 57 [irLV p, irLV q] (rb (decide (p = q))) := by
  refine fn_of lv57 Try.func57 rfl rfl (by kernel_rfl) rfl ?_
  repeat' (first | refine bsplit_true ?_ | refine bsplit_false ?_ | refine bsplit_intro (fun h => ?_) (fun h => ?_))
  all_goals refine ⟨⟨congrArg Value.bool ?_, trivial⟩, rfl⟩
  all_goals (obtain ⟨a1, a2⟩ := p; obtain ⟨b1, b2⟩ := q; simp_all)

def pend (m : HartM) : Int := (if m.csr.getD 9 0 ≠ 0 ∧ m.done ≥ m.csr.getD 9 0 then 1 else 0) + (if m.rung = true then 2 else 0) + (if 0 < m.inp.length then 4 else 0)
def pendingOf (m : HartM) : Int × Int := if hFault m = 0 then (0, pend m) else (hFault m, 0)
theorem c_spec_l8Pending (m : HartM) (hc : m.csr.length = 11) : FnOK Try.prog 120 [.dptr (hartD m)] (ri (pend m)) := by
  refine fn_of lv120 Try.func120 rfl rfl (by kernel_rfl) rfl ?_
  refine ask_intro ⟨by omega, by show (9 : Int) < m.csr.length; omega, rfl⟩ ?_
  have fin : ∀ (a b c : Bool), (m.csr.getD 9 0 != 0) = a → (a = true → decide (m.done ≥ m.csr.getD 9 0) = b) → (a = false → b = false) → decide ((m.inp.length : Int) > 0) = c → pend m = (bif b then 1 else 0) + (bif m.rung then 2 else 0) + (bif c then 4 else 0) := by
    intro a b c h1 h2 h3 h4
    subst h1 h4
    unfold pend
    generalize m.csr.getD 9 0 = z at *
    by_cases e : z = 0
    · have := h3 (by simp [e])
      subst this
      cases m.rung <;> simp [e]
    · have := h2 (by simp [e])
      subst this
      by_cases e2 : m.done ≥ z <;> cases m.rung <;> simp [e, e2]
  refine bsplit_intro (fun h1 => ?_) (fun h1 => ?_)
  · repeat' (first | refine bsplit_true ?_ | refine bsplit_false ?_)
    refine ask_intro ⟨by omega, by show (9 : Int) < m.csr.length; omega, rfl⟩ ?_
    repeat' (first | refine bsplit_true ?_ | refine bsplit_false ?_)
    refine chk_intro (by kernel_rfl) ?_
    refine bsplit_intro (fun h2 => ?_) (fun h2 => ?_)
    all_goals
      cases hr : m.rung
      all_goals
        repeat' (first | refine bsplit_true ?_ | refine bsplit_false ?_)
        refine bsplit_intro (fun h4 => ?_) (fun h4 => ?_)
        all_goals
          refine ⟨⟨congrArg (Value.int .i64) ?_, trivial⟩, rfl⟩
          rw [fin _ _ _ h1 (fun _ => h2) (fun h => by simp at h) h4, hr]
          first | rfl | decide
  · repeat' (first | refine bsplit_true ?_ | refine bsplit_false ?_)
    refine chk_intro (by kernel_rfl) ?_
    repeat' (first | refine bsplit_true ?_ | refine bsplit_false ?_)
    cases hr : m.rung
    all_goals
      repeat' (first | refine bsplit_true ?_ | refine bsplit_false ?_)
      refine bsplit_intro (fun h4 => ?_) (fun h4 => ?_)
      all_goals
        refine ⟨⟨congrArg (Value.int .i64) ?_, trivial⟩, rfl⟩
        rw [fin _ false _ h1 (fun h => by simp at h) (fun _ => rfl) h4, hr]
        first | rfl | decide
theorem c_impl_Hart_pending (m : HartM) (hc : m.csr.length = 11) : FnOK Try.prog 92 [.dptr (hartD m)] (ri (pend m)) := by
  refine fn_of lv92 Try.func92 rfl rfl (by kernel_rfl) rfl ?_
  refine ask_intro ⟨by omega, by show (9 : Int) < m.csr.length; omega, rfl⟩ ?_
  have fin : ∀ (a b c : Bool), (m.csr.getD 9 0 != 0) = a → (a = true → decide (m.done ≥ m.csr.getD 9 0) = b) → (a = false → b = false) → decide ((m.inp.length : Int) > 0) = c → pend m = (bif b then 1 else 0) + (bif m.rung then 2 else 0) + (bif c then 4 else 0) := by
    intro a b c h1 h2 h3 h4
    subst h1 h4
    unfold pend
    generalize m.csr.getD 9 0 = z at *
    by_cases e : z = 0
    · have := h3 (by simp [e])
      subst this
      cases m.rung <;> simp [e]
    · have := h2 (by simp [e])
      subst this
      by_cases e2 : m.done ≥ z <;> cases m.rung <;> simp [e, e2]
  refine bsplit_intro (fun h1 => ?_) (fun h1 => ?_)
  · repeat' (first | refine bsplit_true ?_ | refine bsplit_false ?_)
    refine ask_intro ⟨by omega, by show (9 : Int) < m.csr.length; omega, rfl⟩ ?_
    repeat' (first | refine bsplit_true ?_ | refine bsplit_false ?_)
    refine chk_intro (by kernel_rfl) ?_
    refine bsplit_intro (fun h2 => ?_) (fun h2 => ?_)
    all_goals
      cases hr : m.rung
      all_goals
        repeat' (first | refine bsplit_true ?_ | refine bsplit_false ?_)
        refine bsplit_intro (fun h4 => ?_) (fun h4 => ?_)
        all_goals
          refine ⟨⟨congrArg (Value.int .i64) ?_, trivial⟩, rfl⟩
          rw [fin _ _ _ h1 (fun _ => h2) (fun h => by simp at h) h4, hr]
          first | rfl | decide
  · repeat' (first | refine bsplit_true ?_ | refine bsplit_false ?_)
    refine chk_intro (by kernel_rfl) ?_
    repeat' (first | refine bsplit_true ?_ | refine bsplit_false ?_)
    cases hr : m.rung
    all_goals
      repeat' (first | refine bsplit_true ?_ | refine bsplit_false ?_)
      refine bsplit_intro (fun h4 => ?_) (fun h4 => ?_)
      all_goals
        refine ⟨⟨congrArg (Value.int .i64) ?_, trivial⟩, rfl⟩
        rw [fin _ false _ h1 (fun h => by simp at h) (fun _ => rfl) h4, hr]
        first | rfl | decide
theorem c_impl_PendingOf (m : HartM) (hs : m.small) : FnOK Try.prog 36 [hartLV m] (.r (irR (pendingOf m))) := by
  refine fn_of lv36 Try.func36 rfl rfl (by kernel_rfl) rfl ?_
  refine .inl ⟨_, _, rfl, c_impl_HartFault m hs, rfl, ?_⟩
  refine bsplit_intro (fun h => ?_) (fun h => ?_)
  · have h : ¬ hFault m = 0 := by simpa using h
    unfold pendingOf
    rw [if_neg h]
    exact ⟨⟨rfl, rfl, trivial⟩, rfl⟩
  · have h := fault_ne h
    unfold pendingOf
    rw [if_pos h]
    refine .inl ⟨_, _, rfl, c_impl_Hart_pending m (hFault_zero h).2.1, rfl, ?_⟩
    exact ⟨⟨rfl, rfl, trivial⟩, rfl⟩
def csrOf (m : HartM) (k : Int) : Int := if k = 6 then pend m else if k = 8 then m.done else m.csr.getD k.toNat 0
def getCsr (m : HartM) (k : Int) : Int × Int := if hFault m = 0 then (if inR k 0 10 = true then (0, csrOf m k) else (3, 0)) else (hFault m, 0)
theorem inR_iff {n a b : Int} : inR n a b = true ↔ a ≤ n ∧ n ≤ b := by simp [inR]
end Go.Proofs.Ytfcekiehcchebaa.L

/- What the functions compute that mark what a result owns, and look whether it is held: contracts. -/
set_option linter.unusedVariables false
set_option linter.unusedSimpArgs false
set_option maxRecDepth 100000
namespace Go.Proofs.Ytfcekiehcchebaa.L
open Go.RowKit
/-- the numbers from k on -/
def markL (k : Int) (n : Nat) : List Int := (List.range n).map fun (i : Nat) => k + (i : Int)
theorem markL_len (k : Int) (n : Nat) : (markL k n).length = n := by simp [markL]
theorem markL_get (k : Int) (n i : Nat) (h : i < n) : (markL k n).getD i 0 = k + i := by simp [markL, List.getD, h]
abbrev rowE (l : List Int) : Ent := .row 2 1 l.length (intsF l)

theorem c_laws_markInt64S (l : List Int) (k : Int) (hl : l.length ≤ 1099511627776) (hk : 0 ≤ k) (hk2 : k ≤ 1099511627776) :
    MutOK Try.prog 52 [.row 0, di k] 1 [(0, rowE l)] (di (k + l.length)) 1 [(0, .row 2 1 l.length (intsF (markL k l.length)))] := by
  refine mut_fn_of lv52 Try.func52 rfl rfl (by kernel_rfl) rfl [] ?_
  refine ⟨{ i : Nat // i ≤ l.length }, fun i => ⟨frL [(0, .row 0), (1, di (k + (i.1 : Int))), (5, di i.1)], hpL [(0, .row 2 1 l.length fun j => if j < i.1 then [.v (.int .i64 (k + (j : Int)))] else intsF l j)], 1, 1⟩, fun i => l.length - i.1, ⟨0, by omega⟩,
    le_of [] rfl rfl rfl rfl (tellHp_row rfl rfl rfl (fun i hi => rfl) tellHp_nil) (tellFr_row rfl rfl (tellFr_v rfl (congrArg (Value.int .i64) (?_ : k = k + ((0 : Nat) : Int))) (tellFr_v rfl rfl trivial))), ?_⟩
  · omega
  rintro ⟨i, hi⟩
  refine bsplit_intro (fun h => ?_) (fun h => ?_)
  · have h : i < l.length := by simp at h; exact h
    refine ask_intro ⟨by omega, by simp; omega⟩ ?_
    refine ask_intro (by show i < l.length; exact h) ?_
    refine ⟨⟨i + 1, by omega⟩, le_of [] rfl rfl rfl rfl (tellHp_row rfl rfl rfl (fun j hj => ?_) tellHp_nil) (tellFr_row rfl rfl (tellFr_v rfl (congrArg (Value.int .i64) (?_ : IntKind.i64.wrap (k + (i : Int) + 1) = k + ((i + 1 : Nat) : Int))) (tellFr_v rfl (congrArg (Value.int .i64) (?_ : IntKind.i64.wrap ((i : Int) + 1) = ((i + 1 : Nat) : Int))) trivial))), ?_⟩
    · show (if j = i then splice (if j < i then [.v (.int .i64 (k + (j : Int)))] else intsF l j) 0 [.v (.int .i64 (k + (i : Int)))] else if j < i then [.v (.int .i64 (k + (j : Int)))] else intsF l j) = if j < i + 1 then [.v (.int .i64 (k + (j : Int)))] else intsF l j
      by_cases h1 : j = i
      · subst h1
        rw [if_pos rfl, if_neg (by omega), if_pos (by omega)]
        rfl
      · rw [if_neg h1]
        by_cases h2 : j < i
        · rw [if_pos h2, if_pos (by omega)]
        · rw [if_neg h2, if_neg (by omega)]
    · rw [wrap_i64 _ (by omega) (by omega)]; omega
    · exact wrap_i64 (i + 1) (by omega) (by omega)
    · show l.length - (i + 1) < l.length - i
      omega
  · simp at h
    have e : i = l.length := by omega
    subst e
    refine chk_intro (by kernel_rfl) ⟨tellV_v rfl rfl, tellHp_row rfl rfl rfl (fun j hj => ?_) tellHp_nil⟩
    show (if j < l.length then [.v (.int .i64 (k + (j : Int)))] else intsF l j) = intsF (markL k l.length) j
    rw [if_pos hj]
    show _ = [D.v (.int .i64 ((markL k l.length).getD j 0))]
    rw [markL_get _ _ _ hj]

theorem c_laws_heldInt64S (k : Int) (n : Nat) (hn : n ≤ 1099511627776) (hk : 0 ≤ k) (hk2 : k ≤ 1099511627776) : FnOK Try.prog 95 [.d (.l n (intsF (markL k n))), di k] (ri (k + n)) := by
  refine fn_of lv95 Try.func95 rfl rfl (by kernel_rfl) rfl ?_
  refine ⟨{ i : Nat // i ≤ n }, fun i => ⟨frL [(0, .d (.l n (intsF (markL k n)))), (1, di (k + (i.1 : Int))), (5, di i.1)], hpL [], 0, 0⟩, fun i => n - i.1, ⟨0, by omega⟩,
    le_of [] rfl rfl rfl rfl tellHp_nil (tellFr_d rfl (DLe.refl _) (tellFr_v rfl (congrArg (Value.int .i64) (?_ : k = k + ((0 : Nat) : Int))) (tellFr_v rfl rfl trivial))), ?_⟩
  · omega
  rintro ⟨i, hi⟩
  refine bsplit_intro (fun h => ?_) (fun h => ?_)
  · have h : i < n := by simp at h; exact h
    refine ask_intro ⟨by omega, by simp; omega, rfl⟩ ?_
    refine bsplit_of_false ?_ ?_
    · show ((markL k n).getD i 0 != k + (i : Int)) = false
      rw [markL_get _ _ _ h]; simp
    refine ⟨⟨i + 1, by omega⟩, le_of [] rfl rfl rfl rfl tellHp_nil (tellFr_d rfl (DLe.refl _) (tellFr_v rfl (congrArg (Value.int .i64) (?_ : IntKind.i64.wrap (k + (i : Int) + 1) = k + ((i + 1 : Nat) : Int))) (tellFr_v rfl (congrArg (Value.int .i64) (?_ : IntKind.i64.wrap ((i : Int) + 1) = ((i + 1 : Nat) : Int))) trivial))), ?_⟩
    · rw [wrap_i64 _ (by omega) (by omega)]; omega
    · exact wrap_i64 (i + 1) (by omega) (by omega)
    · show n - (i + 1) < n - i
      omega
  · simp at h
    refine ⟨⟨congrArg (Value.int .i64) (?_ : k + (i : Int) = k + (n : Int)), trivial⟩, rfl⟩
    omega

abbrev hartK (m : HartM) (a b c d : Nat) : List LV := [.row a, di m.pc, .row b, dv (.bool m.halted), dv (.bool m.waiting), dv (.bool m.rung), di m.done, .row c, .row d]
abbrev rowM (l : List Int) (k : Int) : Ent := .row 2 1 l.length (intsF (markL k l.length))
abbrev datM (l : List Int) (k : Int) : LV := .d (.l l.length (intsF (markL k l.length)))
structure HartM.few (m : HartM) : Prop where
  regs : m.regs.length ≤ 1048576
  csr : m.csr.length ≤ 1048576
  inp : m.inp.length ≤ 1048576
  out : m.out.length ≤ 1048576
def hLen (m : HartM) : Int := m.regs.length + m.csr.length + m.inp.length + m.out.length
abbrev hK1 (m : HartM) (k : Int) : Int := k + m.regs.length
abbrev hK2 (m : HartM) (k : Int) : Int := hK1 m k + m.csr.length
abbrev hK3 (m : HartM) (k : Int) : Int := hK2 m k + m.inp.length
abbrev hK4 (m : HartM) (k : Int) : Int := hK3 m k + m.out.length
abbrev hMarks (m : HartM) (k : Int) : List (Nat × Ent) := [(0, rowM m.regs k), (1, rowM m.csr (hK1 m k)), (2, rowM m.inp (hK2 m k)), (3, rowM m.out (hK3 m k))]
abbrev hRows (m : HartM) : List (Nat × Ent) := [(0, rowE m.regs), (1, rowE m.csr), (2, rowE m.inp), (3, rowE m.out)]

theorem hK_le (m : HartM) (k : Int) (hf : m.few) (hk : 0 ≤ k) (hk2 : k ≤ 1048576) : (0 ≤ hK1 m k ∧ hK1 m k ≤ 1099511627776) ∧ (0 ≤ hK2 m k ∧ hK2 m k ≤ 1099511627776) ∧ (0 ≤ hK3 m k ∧ hK3 m k ≤ 1099511627776) ∧ (0 ≤ hK4 m k ∧ hK4 m k ≤ 1099511627776) := by
  obtain ⟨b1, b2, b3, b4⟩ := hf
  unfold hK4 hK3 hK2 hK1
  omega
theorem c_laws_markHart (m : HartM) (k : Int) (hf : m.few) (hk : 0 ≤ k) (hk2 : k ≤ 1048576) : MutOK Try.prog 24 [.agg (hartK m 0 1 2 3), di k] 4 (hRows m) (di (hK4 m k)) 4 (hMarks m k) := by
  obtain ⟨⟨e1, e1'⟩, ⟨e2, e2'⟩, ⟨e3, e3'⟩, ⟨e4, e4'⟩⟩ := hK_le m k hf hk hk2
  obtain ⟨b1, b2, b3, b4⟩ := hf
  refine mut_fn_of lv24 Try.func24 rfl rfl (by kernel_rfl) rfl [] ?_
  refine .inr ⟨rfl, use_mut ⟨_, _, _, _, _, _, rfl, rfl, c_laws_markInt64S m.regs k (by omega) (by omega) (by omega), rfl, ?_⟩⟩
  refine .inr ⟨rfl, use_mut ⟨_, _, _, _, _, _, rfl, rfl, c_laws_markInt64S m.csr (hK1 m k) (by omega) e1 e1', rfl, ?_⟩⟩
  refine .inr ⟨rfl, use_mut ⟨_, _, _, _, _, _, rfl, rfl, c_laws_markInt64S m.inp (hK2 m k) (by omega) e2 e2', rfl, ?_⟩⟩
  refine .inr ⟨rfl, use_mut ⟨_, _, _, _, _, _, rfl, rfl, c_laws_markInt64S m.out (hK3 m k) (by omega) e3 e3', rfl, ?_⟩⟩
  exact chk_intro (by kernel_rfl) ⟨tellV_v rfl rfl, tellHp_row rfl rfl rfl (fun j hj => rfl) (tellHp_row rfl rfl rfl (fun j hj => rfl) (tellHp_row rfl rfl rfl (fun j hj => rfl) (tellHp_row rfl rfl rfl (fun j hj => rfl) tellHp_nil)))⟩
theorem c_laws_heldHart (m : HartM) (k : Int) (hf : m.few) (hk : 0 ≤ k) (hk2 : k ≤ 1048576) : FnOK Try.prog 83 [.agg [datM m.regs k, di m.pc, datM m.csr (hK1 m k), dv (.bool m.halted), dv (.bool m.waiting), dv (.bool m.rung), di m.done, datM m.inp (hK2 m k), datM m.out (hK3 m k)], di k] (ri (hK4 m k)) := by
  obtain ⟨⟨e1, e1'⟩, ⟨e2, e2'⟩, ⟨e3, e3'⟩, ⟨e4, e4'⟩⟩ := hK_le m k hf hk hk2
  obtain ⟨b1, b2, b3, b4⟩ := hf
  refine fn_of lv83 Try.func83 rfl rfl (by kernel_rfl) rfl ?_
  refine .inl ⟨_, _, rfl, c_laws_heldInt64S k m.regs.length (by omega) (by omega) (by omega), rfl, ?_⟩
  refine bsplit_of_false (decide_eq_false (show ¬ hK1 m k < 0 by omega)) ?_
  refine .inl ⟨_, _, rfl, c_laws_heldInt64S (hK1 m k) m.csr.length (by omega) e1 e1', rfl, ?_⟩
  refine bsplit_of_false (decide_eq_false (show ¬ hK2 m k < 0 by omega)) ?_
  refine .inl ⟨_, _, rfl, c_laws_heldInt64S (hK2 m k) m.inp.length (by omega) e2 e2', rfl, ?_⟩
  refine bsplit_of_false (decide_eq_false (show ¬ hK3 m k < 0 by omega)) ?_
  refine .inl ⟨_, _, rfl, c_laws_heldInt64S (hK3 m k) m.out.length (by omega) e3 e3', rfl, ?_⟩
  refine bsplit_of_false (decide_eq_false (show ¬ hK4 m k < 0 by omega)) ?_
  exact ⟨⟨rfl, trivial⟩, rfl⟩

abbrev hrLV (p : Int × HartM) : LV := .agg [di p.1, .d (ints p.2.regs), di p.2.pc, .d (ints p.2.csr), dv (.bool p.2.halted), dv (.bool p.2.waiting), dv (.bool p.2.rung), di p.2.done, .d (ints p.2.inp), .d (ints p.2.out)]
abbrev hrR (p : Int × HartM) : RV1 := .agg [.v (.int .i64 p.1), oInts p.2.regs, .v (.int .i64 p.2.pc), oInts p.2.csr, .v (.bool p.2.halted), .v (.bool p.2.waiting), .v (.bool p.2.rung), .v (.int .i64 p.2.done), oInts p.2.inp, oInts p.2.out]

end Go.Proofs.Ytfcekiehcchebaa.L

/- What the functions compute that make a new machine: contracts. -/
set_option linter.unusedVariables false
set_option linter.unusedSimpArgs false
set_option maxRecDepth 100000
namespace Go.Proofs.Ytfcekiehcchebaa.L
open Go.RowKit
def hartZ : HartM := ⟨[], 0, [], false, false, false, 0, [], []⟩
def newHart (l : List Int) : Int × HartM :=
  bif decide ((l.length : Int) > 40) then (2, hartZ) else bif !(l.all isW) then (3, hartZ) else (0, { hartZ with regs := List.replicate 16 0, csr := List.replicate 11 0, inp := l })
theorem rep_get (n i : Nat) : intsF (List.replicate n 0) i = [.v (.int .i64 0)] := by
  show [D.v (.int .i64 ((List.replicate n (0 : Int)).getD i 0))] = _
  have : (List.replicate n (0 : Int)).getD i 0 = 0 := by
    simp only [List.getD, List.getElem?_replicate]
    split <;> rfl
  rw [this]
theorem c_spec_NewHart (l : List Int) (hl : l.length * 8 ≤ 140737488355328) : FnOK Try.prog 149 [.d (ints l)] (.r (hrR (newHart l))) := by
  refine fn_of lv149 Try.func149 rfl rfl (by kernel_rfl) rfl ?_
  refine bsplit_intro (fun h => ?_) (fun h => ?_)
  · unfold newHart
    rw [h]
    exact ⟨⟨rfl, ⟨rfl, rfl⟩, rfl, ⟨rfl, rfl⟩, rfl, rfl, rfl, rfl, ⟨rfl, rfl⟩, ⟨rfl, rfl⟩, trivial⟩, rfl⟩
  refine .inl ⟨_, _, rfl, c_spec_l8All l (by omega), rfl, ?_⟩
  refine bsplit_intro (fun h2 => ?_) (fun h2 => ?_)
  · unfold newHart
    rw [h, h2]
    exact ⟨⟨rfl, ⟨rfl, rfl⟩, rfl, ⟨rfl, rfl⟩, rfl, rfl, rfl, rfl, ⟨rfl, rfl⟩, ⟨rfl, rfl⟩, trivial⟩, rfl⟩
  refine ask_intro ⟨rfl, by decide, by decide, by decide⟩ ?_
  refine ask_intro ⟨rfl, by decide, by decide, by decide⟩ ?_
  first
    | refine ask_intro ⟨by show (0 + l.length) * 8 ≤ 140737488355328; omega, by omega, fun i hi => rfl⟩ ?_
    | refine .inl ⟨_, _, rfl, c_slices_Clone l hl, rfl, ?_⟩
  refine chk_intro (by kernel_rfl) ?_
  have e : newHart l = (0, { hartZ with regs := List.replicate 16 0, csr := List.replicate 11 0, inp := l }) := by
    unfold newHart
    rw [h, h2]
    rfl
  conv => whnf
  rw [e]
  refine ⟨⟨rfl, ⟨rfl, rfl, rfl, fun i hi => ⟨(rep_get 16 i).symm, rfl⟩⟩, rfl, ⟨rfl, rfl, rfl, fun i hi => ⟨(rep_get 11 i).symm, rfl⟩⟩, rfl, rfl, rfl, rfl, ⟨rfl, rfl, ?_, fun i hi => ⟨rfl, rfl⟩⟩, ⟨rfl, rfl⟩, trivial⟩, rfl⟩
  first
    | rfl
    | exact Nat.zero_add _
end Go.Proofs.Ytfcekiehcchebaa.L

/- What the functions compute that copy and ring a machine: contracts. -/
set_option linter.unusedVariables false
set_option linter.unusedSimpArgs false
set_option maxRecDepth 100000
namespace Go.Proofs.Ytfcekiehcchebaa.L
open Go.RowKit
theorem c_spec_l8Copy (m : HartM) (hs : m.small) : FnOK Try.prog 78 [hartLV m] (.r (hartR m)) := by
  obtain ⟨s1, s2, s3, s4⟩ := hs
  refine fn_of lv78 Try.func78 rfl rfl (by kernel_rfl) rfl ?_
  refine ask_intro ⟨by show (0 + m.regs.length) * 8 ≤ 140737488355328; omega, by omega, fun i hi => rfl⟩ ?_
  refine ask_intro ⟨by show (0 + m.csr.length) * 8 ≤ 140737488355328; omega, by omega, fun i hi => rfl⟩ ?_
  refine ask_intro ⟨by show (0 + m.inp.length) * 8 ≤ 140737488355328; omega, by omega, fun i hi => rfl⟩ ?_
  refine ask_intro ⟨by show (0 + m.out.length) * 8 ≤ 140737488355328; omega, by omega, fun i hi => rfl⟩ ?_
  exact ⟨⟨⟨rfl, rfl, Nat.zero_add _, fun i hi => ⟨rfl, rfl⟩⟩, rfl, ⟨rfl, rfl, Nat.zero_add _, fun i hi => ⟨rfl, rfl⟩⟩, rfl, rfl, rfl, rfl, ⟨rfl, rfl, Nat.zero_add _, fun i hi => ⟨rfl, rfl⟩⟩, ⟨rfl, rfl, Nat.zero_add _, fun i hi => ⟨rfl, rfl⟩⟩, trivial⟩, rfl⟩
theorem c_impl_Hart_own (m : HartM) (hs : m.small) : FnOK Try.prog 81 [hartLV m] (.r (hartR m)) := by
  obtain ⟨s1, s2, s3, s4⟩ := hs
  refine fn_of lv81 Try.func81 rfl rfl (by kernel_rfl) rfl ?_
  refine .inl ⟨_, _, rfl, c_slices_Clone m.regs s1, rfl, ?_⟩
  refine .inl ⟨_, _, rfl, c_slices_Clone m.csr s2, rfl, ?_⟩
  refine .inl ⟨_, _, rfl, c_slices_Clone m.inp s3, rfl, ?_⟩
  refine .inl ⟨_, _, rfl, c_slices_Clone m.out s4, rfl, ?_⟩
  exact ⟨⟨⟨rfl, rfl, rfl, fun i hi => ⟨rfl, rfl⟩⟩, rfl, ⟨rfl, rfl, rfl, fun i hi => ⟨rfl, rfl⟩⟩, rfl, rfl, rfl, rfl, ⟨rfl, rfl, rfl, fun i hi => ⟨rfl, rfl⟩⟩, ⟨rfl, rfl, rfl, fun i hi => ⟨rfl, rfl⟩⟩, trivial⟩, rfl⟩
def ringHart (m : HartM) : Int × HartM := if hFault m = 0 then (0, { m with rung := true }) else (hFault m, hartZ)
theorem c_impl_RingHart (m : HartM) (hs : m.small) : FnOK Try.prog 35 [hartLV m] (.r (hrR (ringHart m))) := by
  refine fn_of lv35 Try.func35 rfl rfl (by kernel_rfl) rfl ?_
  refine .inl ⟨_, _, rfl, c_impl_HartFault m hs, rfl, ?_⟩
  refine bsplit_intro (fun h => ?_) (fun h => ?_)
  · have e : ringHart m = (hFault m, hartZ) := if_neg (by simpa using h)
    conv => whnf
    rw [e]
    exact ⟨⟨rfl, ⟨rfl, rfl⟩, rfl, ⟨rfl, rfl⟩, rfl, rfl, rfl, rfl, ⟨rfl, rfl⟩, ⟨rfl, rfl⟩, trivial⟩, rfl⟩
  have e : ringHart m = (0, { m with rung := true }) := if_pos (fault_ne h)
  refine .inl ⟨_, _, rfl, c_impl_Hart_own m hs, rfl, ?_⟩
  conv => whnf
  rw [e]
  exact ⟨⟨rfl, ⟨rfl, rfl, rfl, fun i hi => ⟨rfl, rfl⟩⟩, rfl, ⟨rfl, rfl, rfl, fun i hi => ⟨rfl, rfl⟩⟩, rfl, rfl, rfl, rfl, ⟨rfl, rfl, rfl, fun i hi => ⟨rfl, rfl⟩⟩, ⟨rfl, rfl, rfl, fun i hi => ⟨rfl, rfl⟩⟩, trivial⟩, rfl⟩
end Go.Proofs.Ytfcekiehcchebaa.L

/- What the functions compute that turn a machine that is pointed at: contracts. -/
set_option linter.unusedVariables false
set_option linter.unusedSimpArgs false
set_option maxRecDepth 100000
namespace Go.Proofs.Ytfcekiehcchebaa.L
open Go.RowKit
theorem set_row (l : List Int) (i : Nat) (v : Int) (h : i < l.length) (j : Nat) : (if j = i then splice (intsF l j) 0 [D.v (.int .i64 v)] else intsF l j) = intsF (l.set i v) j := by
  by_cases e : j = i
  · subst e
    rw [if_pos rfl]
    show [D.v (.int .i64 v)] = [D.v (.int .i64 ((l.set j v).getD j 0))]
    simp [List.getD, h]
  · rw [if_neg e]
    show [D.v (.int .i64 (l.getD j 0))] = [D.v (.int .i64 ((l.set i v).getD j 0))]
    simp [List.getD, List.getElem?_set_ne (Ne.symm e)]
abbrev hBox (m : HartM) : Ent := .box 30 (hartK m 1 2 3 4)
/-- a machine's memory: the machine, its rows -/
abbrev hMem (m : HartM) : List (Nat × Ent) := [(0, hBox m), (1, rowE m.regs), (2, rowE m.csr), (3, rowE m.inp), (4, rowE m.out)]
def backM (m : HartM) : HartM := { m with pc := m.csr.getD 2 0, csr := m.csr.set 0 (IntKind.i64.wrap (2 + IntKind.i64.wrap (Int.tdiv (m.csr.getD 0 0) 2))) }
end Go.Proofs.Ytfcekiehcchebaa.L

/- What the functions compute that send a machine back from a trap: contracts. -/
set_option linter.unusedVariables false
set_option linter.unusedSimpArgs false
set_option maxRecDepth 100000
namespace Go.Proofs.Ytfcekiehcchebaa.L
open Go.RowKit
def backHart (m : HartM) : Int × HartM := if hFault m = 0 then (0, backM m) else (hFault m, hartZ)
end Go.Proofs.Ytfcekiehcchebaa.L

/- What the functions compute that turn a machine that is pointed at: contracts. -/
set_option linter.unusedVariables false
set_option linter.unusedSimpArgs false
set_option maxRecDepth 100000
namespace Go.Proofs.Ytfcekiehcchebaa.L
open Go.RowKit
/-- a store into a row of whole numbers, at one place -/
theorem set_at {l : List Int} {i j : Nat} {v : Int} {x : List D} (h : x = intsF l j) (hi : i < l.length) : (if j = i then splice x 0 [D.v (.int .i64 v)] else x) = intsF (l.set i v) j := by
  rw [h]; exact set_row l i v hi j
def trapM (m : HartM) (c t : Int) : HartM := { m with pc := m.csr.getD 1 0, csr := (((m.csr.set 2 m.pc).set 3 c).set 4 t).set 0 (IntKind.i64.wrap (Int.tmod (m.csr.getD 0 0) 2 * 2)), waiting := false }
def trapHart (m : HartM) (c t : Int) : Int × HartM := if hFault m = 0 then (bif !inR c 0 31 || !isW t then (3, hartZ) else (0, trapM m c t)) else (hFault m, hartZ)
theorem upto_ints (a b : List Int) (i : Nat) : upto a.length (intsF a) (intsF b) i = intsF (a ++ b) i := by
  unfold upto
  show _ = [D.v (.int .i64 ((a ++ b).getD i 0))]
  split
  · rename_i h; show [D.v (.int .i64 (a.getD i 0))] = _; simp [List.getD, List.getElem?_append, h]
  · rename_i h; show [D.v (.int .i64 (b.getD (i - a.length) 0))] = _; simp [List.getD, List.getElem?_append, h]
def feedHart (m : HartM) (l : List Int) : Int × HartM :=
  if hFault m = 0 then (bif !l.all isW then (3, hartZ) else bif decide ((m.inp.length : Int) + l.length > 40) then (2, hartZ) else (0, { m with inp := m.inp ++ l })) else (hFault m, hartZ)
theorem c_spec_FeedHart (m : HartM) (hs : m.small) (l : List Int) (hl : l.length ≤ 1048576) : FnOK Try.prog 32 [hartLV m, .d (ints l)] (.r (hrR (feedHart m l))) := by
  refine fn_of lv32 Try.func32 rfl rfl (by kernel_rfl) rfl ?_
  refine .inl ⟨_, _, rfl, c_spec_l8Fault m hs, rfl, ?_⟩
  refine bsplit_intro (fun h => ?_) (fun h => ?_)
  · have e : feedHart m l = (hFault m, hartZ) := if_neg (by simpa using h)
    conv => whnf
    rw [e]
    exact ⟨⟨rfl, ⟨rfl, rfl⟩, rfl, ⟨rfl, rfl⟩, rfl, rfl, rfl, rfl, ⟨rfl, rfl⟩, ⟨rfl, rfl⟩, trivial⟩, rfl⟩
  have h0 := fault_ne h
  refine .inl ⟨_, _, rfl, c_spec_l8All l (by omega), rfl, ?_⟩
  refine bsplit_intro (fun h1 => ?_) (fun h1 => ?_)
  · have e : feedHart m l = (3, hartZ) := by unfold feedHart; rw [if_pos h0, h1]; rfl
    conv => whnf
    rw [e]
    exact ⟨⟨rfl, ⟨rfl, rfl⟩, rfl, ⟨rfl, rfl⟩, rfl, rfl, rfl, rfl, ⟨rfl, rfl⟩, ⟨rfl, rfl⟩, trivial⟩, rfl⟩
  have hz := hFault_zero h0
  try refine chk_intro (by kernel_rfl) ?_
  have hw : IntKind.i64.wrap ((m.inp.length : Int) + l.length) = (m.inp.length : Int) + l.length := wrap_i64 _ (by omega) (by omega)
  refine bsplit_intro (fun h2 => ?_) (fun h2 => ?_)
  · rw [hw] at h2
    have e : feedHart m l = (2, hartZ) := by unfold feedHart; rw [if_pos h0, h1, h2]; rfl
    conv => whnf
    rw [e]
    exact ⟨⟨rfl, ⟨rfl, rfl⟩, rfl, ⟨rfl, rfl⟩, rfl, rfl, rfl, rfl, ⟨rfl, rfl⟩, ⟨rfl, rfl⟩, trivial⟩, rfl⟩
  rw [hw] at h2
  have e : feedHart m l = (0, { m with inp := m.inp ++ l }) := by unfold feedHart; rw [if_pos h0, h1, h2]; rfl
  refine .inl ⟨_, _, rfl, c_spec_l8Copy m hs, rfl, ?_⟩
  refine ask_intro ⟨by show (m.inp.length + l.length) * 8 ≤ 140737488355328; omega, by omega, fun i hi => rfl⟩ ?_
  try refine chk_intro (by kernel_rfl) ?_
  conv => whnf
  rw [e]
  refine ⟨⟨rfl, ⟨rfl, rfl, rfl, fun i hi => ⟨rfl, rfl⟩⟩, rfl, ⟨rfl, rfl, rfl, fun i hi => ⟨rfl, rfl⟩⟩, rfl, rfl, rfl, rfl, ⟨rfl, rfl, ?_, fun i hi => ⟨?_, rfl⟩⟩, ⟨rfl, rfl, rfl, fun i hi => ⟨rfl, rfl⟩⟩, trivial⟩, rfl⟩
  · show m.inp.length + l.length = (m.inp ++ l).length
    simp
  · exact upto_ints _ _ _
theorem c_impl_FeedHart (m : HartM) (hs : m.small) (l : List Int) (hl : l.length ≤ 1048576) : FnOK Try.prog 31 [hartLV m, .d (ints l)] (.r (hrR (feedHart m l))) := by
  refine fn_of lv31 Try.func31 rfl rfl (by kernel_rfl) rfl ?_
  refine .inl ⟨_, _, rfl, c_impl_HartFault m hs, rfl, ?_⟩
  refine bsplit_intro (fun h => ?_) (fun h => ?_)
  · have e : feedHart m l = (hFault m, hartZ) := if_neg (by simpa using h)
    conv => whnf
    rw [e]
    exact ⟨⟨rfl, ⟨rfl, rfl⟩, rfl, ⟨rfl, rfl⟩, rfl, rfl, rfl, rfl, ⟨rfl, rfl⟩, ⟨rfl, rfl⟩, trivial⟩, rfl⟩
  have h0 := fault_ne h
  refine .inl ⟨_, _, rfl, c_impl_areWords l (by omega), rfl, ?_⟩
  refine bsplit_intro (fun h1 => ?_) (fun h1 => ?_)
  · have e : feedHart m l = (3, hartZ) := by unfold feedHart; rw [if_pos h0, h1]; rfl
    conv => whnf
    rw [e]
    exact ⟨⟨rfl, ⟨rfl, rfl⟩, rfl, ⟨rfl, rfl⟩, rfl, rfl, rfl, rfl, ⟨rfl, rfl⟩, ⟨rfl, rfl⟩, trivial⟩, rfl⟩
  have hz := hFault_zero h0
  try refine chk_intro (by kernel_rfl) ?_
  have hw : IntKind.i64.wrap ((m.inp.length : Int) + l.length) = (m.inp.length : Int) + l.length := wrap_i64 _ (by omega) (by omega)
  refine bsplit_intro (fun h2 => ?_) (fun h2 => ?_)
  · rw [hw] at h2
    have e : feedHart m l = (2, hartZ) := by unfold feedHart; rw [if_pos h0, h1, h2]; rfl
    conv => whnf
    rw [e]
    exact ⟨⟨rfl, ⟨rfl, rfl⟩, rfl, ⟨rfl, rfl⟩, rfl, rfl, rfl, rfl, ⟨rfl, rfl⟩, ⟨rfl, rfl⟩, trivial⟩, rfl⟩
  rw [hw] at h2
  have e : feedHart m l = (0, { m with inp := m.inp ++ l }) := by unfold feedHart; rw [if_pos h0, h1, h2]; rfl
  refine .inl ⟨_, _, rfl, c_impl_Hart_own m hs, rfl, ?_⟩
  refine ask_intro ⟨by show (m.inp.length + l.length) * 8 ≤ 140737488355328; omega, by omega, fun i hi => rfl⟩ ?_
  try refine chk_intro (by kernel_rfl) ?_
  conv => whnf
  rw [e]
  refine ⟨⟨rfl, ⟨rfl, rfl, rfl, fun i hi => ⟨rfl, rfl⟩⟩, rfl, ⟨rfl, rfl, rfl, fun i hi => ⟨rfl, rfl⟩⟩, rfl, rfl, rfl, rfl, ⟨rfl, rfl, ?_, fun i hi => ⟨?_, rfl⟩⟩, ⟨rfl, rfl, rfl, fun i hi => ⟨rfl, rfl⟩⟩, trivial⟩, rfl⟩
  · show m.inp.length + l.length = (m.inp ++ l).length
    simp
  · exact upto_ints _ _ _
end Go.Proofs.Ytfcekiehcchebaa.L

/- What the functions compute that set a number of a machine: contracts. -/
set_option linter.unusedVariables false
set_option linter.unusedSimpArgs false
set_option maxRecDepth 100000
namespace Go.Proofs.Ytfcekiehcchebaa.L
open Go.RowKit
def wrapW (n : Int) : Int := n % 4294967296
theorem wrapW_le (n : Int) : 0 ≤ wrapW n ∧ wrapW n ≤ 4294967295 := by unfold wrapW; omega
theorem and_mask (a : Int) : IntKind.i64.wrap (BitVec.ofInt IntKind.i64.bits a &&& BitVec.ofInt IntKind.i64.bits 4294967295).toNat = wrapW a := by
  have e : (BitVec.ofInt IntKind.i64.bits a &&& BitVec.ofInt IntKind.i64.bits 4294967295).toNat = (a % 18446744073709551616).toNat % 4294967296 := by
    rw [BitVec.toNat_and, BitVec.toNat_ofInt, BitVec.toNat_ofInt]
    show (a % 18446744073709551616).toNat &&& (2 ^ 32 - 1) = _
    rw [Nat.and_two_pow_sub_one_eq_mod]
  rw [e]
  unfold wrapW
  have : (((a % 18446744073709551616).toNat % 4294967296 : Nat) : Int) = a % 4294967296 := by omega
  rw [this]
  exact wrap_i64 _ (by omega) (by omega)
theorem wrap_u32 (a : Int) : IntKind.u32.wrap a = a % 4294967296 := by
  simp [IntKind.wrap, IntKind.bits, IntKind.signed]
theorem c_spec_WrapWord (n : Int) : FnOK Try.prog 122 [di n] (ri (wrapW n)) := by
  refine fn_of lv122 Try.func122 rfl rfl (by kernel_rfl) rfl ?_
  refine ⟨⟨congrArg (Value.int .i64) ?_, trivial⟩, rfl⟩
  first
    | exact and_mask n
    | (show IntKind.i64.wrap (IntKind.u32.wrap n) = _
       rw [wrap_u32]
       exact wrap_i64 _ (by omega) (by omega))
theorem c_impl_WrapWord (n : Int) : FnOK Try.prog 124 [di n] (ri (wrapW n)) := by
  refine fn_of lv124 Try.func124 rfl rfl (by kernel_rfl) rfl ?_
  refine ⟨⟨congrArg (Value.int .i64) ?_, trivial⟩, rfl⟩
  first
    | exact and_mask n
    | (show IntKind.i64.wrap (IntKind.u32.wrap n) = _
       rw [wrap_u32]
       exact wrap_i64 _ (by omega) (by omega))
def setCsrL (m : HartM) (k v : Int) : HartM := { m with csr := m.csr.set k.toNat v }
def setM (m : HartM) (k w0 : Int) : HartM :=
  if k = 0 then setCsrL m k (Int.tmod (wrapW w0) 4) else if k = 7 then setCsrL m k (Int.tmod (wrapW w0) 8) else if k = 10 then setCsrL m k (if wrapW w0 ≤ 8 then wrapW w0 else 0)
  else if k = 6 then { m with rung := m.rung && decide (Int.tmod (wrapW w0) 4 < 2) } else if k = 8 then m else setCsrL m k (wrapW w0)
theorem c_spec_l8Set (m : HartM) (k w : Int) (hc : m.csr.length = 11) (hk : inR k 0 10 = true) : MutOK Try.prog 123 [.ptr 0 0, di k, di w] 5 (hMem m) (.tup []) 5 (hMem (setM m k w)) := by
  rw [inR_iff] at hk
  refine mut_fn_of lv123 Try.func123 rfl rfl (by kernel_rfl) rfl [] ?_
  refine .inl ⟨_, _, rfl, c_spec_WrapWord w, rfl, ?_⟩
  generalize hm : setM m k w = m'
  unfold setM at hm
  have fin : ∀ v : Int, (m.csr.length = (setCsrL m k v).csr.length) ∧ ∀ j, (if j = k.toNat then splice (intsF m.csr j) 0 [D.v (.int .i64 v)] else intsF m.csr j) = intsF (setCsrL m k v).csr j :=
    fun v => ⟨by simp [setCsrL], fun j => set_at rfl (by omega)⟩
  repeat' (first | refine bsplit_true ?_ | refine bsplit_false ?_)
  refine bsplit_intro (fun h => ?_) (fun h => ?_)
  · rw [if_pos (by simpa using h)] at hm
    subst hm
    (repeat' (first | refine ask_intro ?_ ?_ | refine chk_intro (by kernel_rfl) ?_)) <;> (try (first | omega | decide))
    exact ⟨trivial, tellHp_box rfl rfl ⟨rfl, rfl, rfl, rfl, rfl, rfl, rfl, rfl, rfl, trivial⟩ (tellHp_row rfl rfl rfl (fun j hj => rfl) (tellHp_row rfl rfl (fin _).1 (fun j hj => (fin _).2 j) (tellHp_row rfl rfl rfl (fun j hj => rfl) (tellHp_row rfl rfl rfl (fun j hj => rfl) tellHp_nil))))⟩
  rw [if_neg (by simpa using h)] at hm
  refine bsplit_intro (fun h => ?_) (fun h => ?_)
  · rw [if_pos (by simpa using h)] at hm
    subst hm
    (repeat' (first | refine ask_intro ?_ ?_ | refine chk_intro (by kernel_rfl) ?_)) <;> (try (first | omega | decide))
    exact ⟨trivial, tellHp_box rfl rfl ⟨rfl, rfl, rfl, rfl, rfl, rfl, rfl, rfl, rfl, trivial⟩ (tellHp_row rfl rfl rfl (fun j hj => rfl) (tellHp_row rfl rfl (fin _).1 (fun j hj => (fin _).2 j) (tellHp_row rfl rfl rfl (fun j hj => rfl) (tellHp_row rfl rfl rfl (fun j hj => rfl) tellHp_nil))))⟩
  rw [if_neg (by simpa using h)] at hm
  refine bsplit_intro (fun h => ?_) (fun h => ?_)
  · rw [if_pos (by simpa using h)] at hm
    (repeat' (first | refine ask_intro ?_ ?_ | refine chk_intro (by kernel_rfl) ?_)) <;> (try (first | omega | decide))
    refine bsplit_intro (fun h2 => ?_) (fun h2 => ?_)
    · rw [if_pos (by simpa using h2)] at hm
      subst hm
      (repeat' (first | refine ask_intro ?_ ?_ | refine chk_intro (by kernel_rfl) ?_)) <;> (try (first | omega | decide))
      refine ⟨trivial, tellHp_box rfl rfl ⟨rfl, rfl, rfl, rfl, rfl, rfl, rfl, rfl, rfl, trivial⟩ (tellHp_row rfl rfl rfl (fun j hj => rfl) (tellHp_row rfl rfl (fin _).1 (fun j hj => ?_) (tellHp_row rfl rfl rfl (fun j hj => rfl) (tellHp_row rfl rfl rfl (fun j hj => rfl) tellHp_nil))))⟩
      refine (set_at (l := m.csr.set k.toNat 0) (set_at rfl (by omega)) (by simp; omega)).trans ?_
      show intsF _ j = intsF (m.csr.set k.toNat (wrapW w)) j
      rw [List.set_set]
    · rw [if_neg (by simpa using h2)] at hm
      subst hm
      (repeat' (first | refine ask_intro ?_ ?_ | refine chk_intro (by kernel_rfl) ?_)) <;> (try (first | omega | decide))
      exact ⟨trivial, tellHp_box rfl rfl ⟨rfl, rfl, rfl, rfl, rfl, rfl, rfl, rfl, rfl, trivial⟩ (tellHp_row rfl rfl rfl (fun j hj => rfl) (tellHp_row rfl rfl (fin _).1 (fun j hj => (fin _).2 j) (tellHp_row rfl rfl rfl (fun j hj => rfl) (tellHp_row rfl rfl rfl (fun j hj => rfl) tellHp_nil))))⟩
  rw [if_neg (by simpa using h)] at hm
  refine bsplit_intro (fun h => ?_) (fun h => ?_)
  · rw [if_pos (by simpa using h)] at hm
    subst hm
    (repeat' (first | refine ask_intro ?_ ?_ | refine chk_intro (by kernel_rfl) ?_)) <;> (try (first | omega | decide))
    refine bsplit_intro (fun h2 => ?_) (fun h2 => ?_) <;> (repeat' (first | refine bsplit_true ?_ | refine bsplit_false ?_ | refine ask_intro ?_ ?_ | refine chk_intro (by kernel_rfl) ?_)) <;> (try (first | omega | decide))
    all_goals
      refine ⟨trivial, tellHp_box rfl rfl ⟨rfl, rfl, rfl, rfl, rfl, congrArg Value.bool ?_, rfl, rfl, rfl, trivial⟩ (tellHp_row rfl rfl rfl (fun j hj => rfl) (tellHp_row rfl rfl rfl (fun j hj => rfl) (tellHp_row rfl rfl rfl (fun j hj => rfl) (tellHp_row rfl rfl rfl (fun j hj => rfl) tellHp_nil))))⟩
      first
        | (simp [h2]; done)
        | (have h3 : ¬ (wrapW w).tmod 4 < 2 := by (simp at h2; omega)
           simp [h3]; done)
        | (have h3 : (wrapW w).tmod 4 < 2 := by (simp at h2; omega)
           simp [h3]; done)
  rw [if_neg (by simpa using h)] at hm
  refine bsplit_intro (fun h => ?_) (fun h => ?_)
  · rw [if_pos (by simpa using h)] at hm
    subst hm
    (repeat' (first | refine ask_intro ?_ ?_ | refine chk_intro (by kernel_rfl) ?_)) <;> (try (first | omega | decide))
    exact ⟨trivial, tellHp_box rfl rfl ⟨rfl, rfl, rfl, rfl, rfl, rfl, rfl, rfl, rfl, trivial⟩ (tellHp_row rfl rfl rfl (fun j hj => rfl) (tellHp_row rfl rfl rfl (fun j hj => rfl) (tellHp_row rfl rfl rfl (fun j hj => rfl) (tellHp_row rfl rfl rfl (fun j hj => rfl) tellHp_nil))))⟩
  rw [if_neg (by simpa using h)] at hm
  subst hm
  (repeat' (first | refine ask_intro ?_ ?_ | refine chk_intro (by kernel_rfl) ?_)) <;> (try (first | omega | decide))
  exact ⟨trivial, tellHp_box rfl rfl ⟨rfl, rfl, rfl, rfl, rfl, rfl, rfl, rfl, rfl, trivial⟩ (tellHp_row rfl rfl rfl (fun j hj => rfl) (tellHp_row rfl rfl (fin _).1 (fun j hj => (fin _).2 j) (tellHp_row rfl rfl rfl (fun j hj => rfl) (tellHp_row rfl rfl rfl (fun j hj => rfl) tellHp_nil))))⟩
theorem c_impl_Hart_set (m : HartM) (k w : Int) (hc : m.csr.length = 11) (hk : inR k 0 10 = true) : MutOK Try.prog 125 [.ptr 0 0, di k, di w] 5 (hMem m) (.tup []) 5 (hMem (setM m k w)) := by
  rw [inR_iff] at hk
  refine mut_fn_of lv125 Try.func125 rfl rfl (by kernel_rfl) rfl [] ?_
  refine .inl ⟨_, _, rfl, c_impl_WrapWord w, rfl, ?_⟩
  generalize hm : setM m k w = m'
  unfold setM at hm
  have fin : ∀ v : Int, (m.csr.length = (setCsrL m k v).csr.length) ∧ ∀ j, (if j = k.toNat then splice (intsF m.csr j) 0 [D.v (.int .i64 v)] else intsF m.csr j) = intsF (setCsrL m k v).csr j :=
    fun v => ⟨by simp [setCsrL], fun j => set_at rfl (by omega)⟩
  repeat' (first | refine bsplit_true ?_ | refine bsplit_false ?_)
  refine bsplit_intro (fun h => ?_) (fun h => ?_)
  · rw [if_pos (by simpa using h)] at hm
    subst hm
    (repeat' (first | refine ask_intro ?_ ?_ | refine chk_intro (by kernel_rfl) ?_)) <;> (try (first | omega | decide))
    exact ⟨trivial, tellHp_box rfl rfl ⟨rfl, rfl, rfl, rfl, rfl, rfl, rfl, rfl, rfl, trivial⟩ (tellHp_row rfl rfl rfl (fun j hj => rfl) (tellHp_row rfl rfl (fin _).1 (fun j hj => (fin _).2 j) (tellHp_row rfl rfl rfl (fun j hj => rfl) (tellHp_row rfl rfl rfl (fun j hj => rfl) tellHp_nil))))⟩
  rw [if_neg (by simpa using h)] at hm
  refine bsplit_intro (fun h => ?_) (fun h => ?_)
  · rw [if_pos (by simpa using h)] at hm
    subst hm
    (repeat' (first | refine ask_intro ?_ ?_ | refine chk_intro (by kernel_rfl) ?_)) <;> (try (first | omega | decide))
    exact ⟨trivial, tellHp_box rfl rfl ⟨rfl, rfl, rfl, rfl, rfl, rfl, rfl, rfl, rfl, trivial⟩ (tellHp_row rfl rfl rfl (fun j hj => rfl) (tellHp_row rfl rfl (fin _).1 (fun j hj => (fin _).2 j) (tellHp_row rfl rfl rfl (fun j hj => rfl) (tellHp_row rfl rfl rfl (fun j hj => rfl) tellHp_nil))))⟩
  rw [if_neg (by simpa using h)] at hm
  refine bsplit_intro (fun h => ?_) (fun h => ?_)
  · rw [if_pos (by simpa using h)] at hm
    (repeat' (first | refine ask_intro ?_ ?_ | refine chk_intro (by kernel_rfl) ?_)) <;> (try (first | omega | decide))
    refine bsplit_intro (fun h2 => ?_) (fun h2 => ?_)
    · rw [if_pos (by simpa using h2)] at hm
      subst hm
      (repeat' (first | refine ask_intro ?_ ?_ | refine chk_intro (by kernel_rfl) ?_)) <;> (try (first | omega | decide))
      refine ⟨trivial, tellHp_box rfl rfl ⟨rfl, rfl, rfl, rfl, rfl, rfl, rfl, rfl, rfl, trivial⟩ (tellHp_row rfl rfl rfl (fun j hj => rfl) (tellHp_row rfl rfl (fin _).1 (fun j hj => ?_) (tellHp_row rfl rfl rfl (fun j hj => rfl) (tellHp_row rfl rfl rfl (fun j hj => rfl) tellHp_nil))))⟩
      refine (set_at (l := m.csr.set k.toNat 0) (set_at rfl (by omega)) (by simp; omega)).trans ?_
      show intsF _ j = intsF (m.csr.set k.toNat (wrapW w)) j
      rw [List.set_set]
    · rw [if_neg (by simpa using h2)] at hm
      subst hm
      (repeat' (first | refine ask_intro ?_ ?_ | refine chk_intro (by kernel_rfl) ?_)) <;> (try (first | omega | decide))
      exact ⟨trivial, tellHp_box rfl rfl ⟨rfl, rfl, rfl, rfl, rfl, rfl, rfl, rfl, rfl, trivial⟩ (tellHp_row rfl rfl rfl (fun j hj => rfl) (tellHp_row rfl rfl (fin _).1 (fun j hj => (fin _).2 j) (tellHp_row rfl rfl rfl (fun j hj => rfl) (tellHp_row rfl rfl rfl (fun j hj => rfl) tellHp_nil))))⟩
  rw [if_neg (by simpa using h)] at hm
  refine bsplit_intro (fun h => ?_) (fun h => ?_)
  · rw [if_pos (by simpa using h)] at hm
    subst hm
    (repeat' (first | refine ask_intro ?_ ?_ | refine chk_intro (by kernel_rfl) ?_)) <;> (try (first | omega | decide))
    refine bsplit_intro (fun h2 => ?_) (fun h2 => ?_) <;> (repeat' (first | refine bsplit_true ?_ | refine bsplit_false ?_ | refine ask_intro ?_ ?_ | refine chk_intro (by kernel_rfl) ?_)) <;> (try (first | omega | decide))
    all_goals
      refine ⟨trivial, tellHp_box rfl rfl ⟨rfl, rfl, rfl, rfl, rfl, congrArg Value.bool ?_, rfl, rfl, rfl, trivial⟩ (tellHp_row rfl rfl rfl (fun j hj => rfl) (tellHp_row rfl rfl rfl (fun j hj => rfl) (tellHp_row rfl rfl rfl (fun j hj => rfl) (tellHp_row rfl rfl rfl (fun j hj => rfl) tellHp_nil))))⟩
      first
        | (simp [h2]; done)
        | (have h3 : ¬ (wrapW w).tmod 4 < 2 := by (simp at h2; omega)
           simp [h3]; done)
        | (have h3 : (wrapW w).tmod 4 < 2 := by (simp at h2; omega)
           simp [h3]; done)
  rw [if_neg (by simpa using h)] at hm
  refine bsplit_intro (fun h => ?_) (fun h => ?_)
  · rw [if_pos (by simpa using h)] at hm
    subst hm
    (repeat' (first | refine ask_intro ?_ ?_ | refine chk_intro (by kernel_rfl) ?_)) <;> (try (first | omega | decide))
    exact ⟨trivial, tellHp_box rfl rfl ⟨rfl, rfl, rfl, rfl, rfl, rfl, rfl, rfl, rfl, trivial⟩ (tellHp_row rfl rfl rfl (fun j hj => rfl) (tellHp_row rfl rfl rfl (fun j hj => rfl) (tellHp_row rfl rfl rfl (fun j hj => rfl) (tellHp_row rfl rfl rfl (fun j hj => rfl) tellHp_nil))))⟩
  rw [if_neg (by simpa using h)] at hm
  subst hm
  (repeat' (first | refine ask_intro ?_ ?_ | refine chk_intro (by kernel_rfl) ?_)) <;> (try (first | omega | decide))
  exact ⟨trivial, tellHp_box rfl rfl ⟨rfl, rfl, rfl, rfl, rfl, rfl, rfl, rfl, rfl, trivial⟩ (tellHp_row rfl rfl rfl (fun j hj => rfl) (tellHp_row rfl rfl (fin _).1 (fun j hj => (fin _).2 j) (tellHp_row rfl rfl rfl (fun j hj => rfl) (tellHp_row rfl rfl rfl (fun j hj => rfl) tellHp_nil))))⟩
def setCsr (m : HartM) (k w : Int) : Int × HartM := if hFault m = 0 then (bif !inR k 0 10 then (3, hartZ) else (0, setM m k w)) else (hFault m, hartZ)
end Go.Proofs.Ytfcekiehcchebaa.L

/- What the functions compute that draw numbers out of a code's bytes: contracts. -/
set_option linter.unusedVariables false
set_option linter.unusedSimpArgs false
set_option maxRecDepth 100000
namespace Go.Proofs.Ytfcekiehcchebaa.L
open Go.RowKit
abbrev bytesD (c : List Int) : D := .l c.length fun i => [.v (.int .u8 (c.getD i 0))]
abbrev srcBox (c : List Int) (p : Int) : Ent := .box 150 [.d (bytesD c), di p]
structure okCode (c : List Int) : Prop where
  len : c.length ≤ 1048576
  byte : ∀ x ∈ c, 0 ≤ x ∧ x ≤ 255
theorem okCode.at {c : List Int} (h : okCode c) (i : Nat) : 0 ≤ c.getD i 0 ∧ c.getD i 0 ≤ 255 := by
  rcases Nat.lt_or_ge i c.length with hi | hi
  · have : c.getD i 0 = c[i] := by simp [List.getD, List.getElem?_eq_getElem hi]
    rw [this]; exact h.byte _ (List.getElem_mem hi)
  · simp [List.getD, List.getElem?_eq_none hi]
def nxRaw (c : List Int) (p n : Int) : Int :=
  if (c.length : Int) = 0 then p * 7 else
  if n > 200 then (c.getD (Int.tmod p c.length).toNat 0 + Int.tdiv p c.length * 37) * 251 + c.getD (Int.tmod (p + 1) c.length).toNat 0 * 13 + p
  else c.getD (Int.tmod p c.length).toNat 0 + Int.tdiv p c.length * 37
def nx (c : List Int) (p n : Int) : Int := if n < 1 then 0 else Int.tmod (nxRaw c p n) n
theorem raw1 {b q : Int} (h1 : 0 ≤ b) (h2 : b ≤ 255) (h3 : 0 ≤ q) (h4 : q ≤ 1099511627776) : IntKind.i64.wrap (IntKind.i64.wrap b + IntKind.i64.wrap (IntKind.i64.wrap q * 37)) = b + q * 37 := by
  simp only [IntKind.wrap_i64]; omega
theorem tdiv_le {a b : Int} (h1 : 0 ≤ a) (h2 : 0 < b) : 0 ≤ Int.tdiv a b ∧ Int.tdiv a b ≤ a := ⟨Int.tdiv_nonneg h1 (by omega), Int.tdiv_le_self b h1⟩
theorem tmod_in {a b : Int} (h1 : 0 ≤ a) (h2 : 0 < b) : 0 ≤ Int.tmod a b ∧ Int.tmod a b < b := ⟨Int.tmod_nonneg b h1, Int.tmod_lt_of_pos a h2⟩
theorem nxRaw_le {c : List Int} (hc : okCode c) {p : Int} (h1 : 0 ≤ p) (n : Int) : 0 ≤ nxRaw c p n := by
  have a := hc.at (Int.tmod p c.length).toNat
  have b := hc.at (Int.tmod (p + 1) c.length).toNat
  have d : 0 ≤ Int.tdiv p c.length := Int.tdiv_nonneg h1 (Int.natCast_nonneg _)
  unfold nxRaw
  split
  · omega
  · split <;> omega
theorem nx_in {c : List Int} (hc : okCode c) {p : Int} (h1 : 0 ≤ p) {n : Int} (hn : 1 ≤ n) : 0 ≤ nx c p n ∧ nx c p n < n := by
  unfold nx
  rw [if_neg (by omega)]
  exact tmod_in (nxRaw_le hc h1 n) (by omega)
theorem c_spec_l1Next (c : List Int) (hc : okCode c) (p n : Int) (hp : 0 ≤ p) (hp2 : p ≤ 549755813888) : MutOK Try.prog 127 [.ptr 0 0, di n] 1 [(0, srcBox c p)] (di (nx c p n)) 1 [(0, srcBox c (p + 1))] := by
  refine mut_fn_of lv127 Try.func127 rfl rfl (by kernel_rfl) rfl [] ?_
  have hw : IntKind.i64.wrap (p + 1) = p + 1 := wrap_i64 _ (by omega) (by omega)
  have hw2 : IntKind.i64.wrap (IntKind.i64.wrap (p + 1) - 1) = p := by rw [hw]; exact (wrap_i64 _ (by omega) (by omega)).trans (by omega)
  have a1 := hc.at (Int.tmod p c.length).toNat
  have a2 := hc.at (Int.tmod (p + 1) c.length).toNat
  have hlen := hc.len
  generalize hq : nx c p n = r
  unfold nx at hq
  (repeat' (first | refine bsplit_true ?_ | refine bsplit_false ?_ | refine ask_intro ?_ ?_ | refine chk_intro (by kernel_rfl) ?_)) <;> (try (first | omega | decide))
  refine bsplit_intro (fun h1 => ?_) (fun h1 => ?_)
  · rw [if_pos (by simpa using h1)] at hq
    subst hq
    (repeat' (first | refine bsplit_true ?_ | refine bsplit_false ?_ | refine ask_intro ?_ ?_ | refine chk_intro (by kernel_rfl) ?_)) <;> (try (first | omega | decide))
    exact ⟨tellV_v rfl rfl, tellHp_box rfl rfl ⟨DLe.refl _, congrArg (Value.int .i64) hw, trivial⟩ tellHp_nil⟩
  have hn : ¬ n < 1 := by simpa using h1
  rw [if_neg hn] at hq
  unfold nxRaw at hq
  refine bsplit_intro (fun h2 => ?_) (fun h2 => ?_)
  · rw [if_pos (by simpa using h2)] at hq
    subst hq
    refine ask_intro (show n ≠ 0 by omega) ?_
    refine chk_intro (by kernel_rfl) ⟨tellV_v rfl (congrArg (Value.int .i64) ?_), tellHp_box rfl rfl ⟨DLe.refl _, congrArg (Value.int .i64) hw, trivial⟩ tellHp_nil⟩
    rw [hw2, wrap_i64 (p * 7) (by omega) (by omega)]
  have hk : ¬ (c.length : Int) = 0 := by simpa using h2
  rw [if_neg hk] at hq
  have b1 := tmod_in hp (show 0 < (c.length : Int) by omega)
  have b2 := tmod_in (show 0 ≤ p + 1 by omega) (show 0 < (c.length : Int) by omega)
  have b3 := tdiv_le hp (show 0 < (c.length : Int) by omega)
  refine ask_intro (show (c.length : Int) ≠ 0 from hk) ?_
  refine ask_intro ⟨by show 0 ≤ Int.tmod (IntKind.i64.wrap (IntKind.i64.wrap (p + 1) - 1)) _; rw [hw2]; exact b1.1, by show Int.tmod (IntKind.i64.wrap (IntKind.i64.wrap (p + 1) - 1)) _ < _; rw [hw2]; exact b1.2, rfl⟩ ?_
  refine ask_intro (show (c.length : Int) ≠ 0 from hk) ?_
  (repeat' (first | refine bsplit_true ?_ | refine bsplit_false ?_ | refine ask_intro ?_ ?_ | refine chk_intro (by kernel_rfl) ?_)) <;> (try (first | omega | decide))
  refine bsplit_intro (fun h3 => ?_) (fun h3 => ?_)
  · rw [if_pos (by simpa using h3)] at hq
    refine ask_intro (show (c.length : Int) ≠ 0 from hk) ?_
    refine ask_intro ⟨by show 0 ≤ Int.tmod (IntKind.i64.wrap (IntKind.i64.wrap (IntKind.i64.wrap (p + 1) - 1) + 1)) _; rw [hw2, hw]; exact b2.1, by show Int.tmod (IntKind.i64.wrap (IntKind.i64.wrap (IntKind.i64.wrap (p + 1) - 1) + 1)) _ < _; rw [hw2, hw]; exact b2.2, rfl⟩ ?_
    (repeat' (first | refine bsplit_true ?_ | refine bsplit_false ?_ | refine ask_intro ?_ ?_ | refine chk_intro (by kernel_rfl) ?_)) <;> (try (first | omega | decide))
    refine ⟨tellV_v rfl (congrArg (Value.int .i64) ?_), tellHp_box rfl rfl ⟨DLe.refl _, congrArg (Value.int .i64) hw, trivial⟩ tellHp_nil⟩
    rw [← hq, hw2, hw]
    congr 1
    generalize c.getD (Int.tmod p c.length).toNat 0 = u1 at *
    generalize c.getD (Int.tmod (p + 1) c.length).toNat 0 = u2 at *
    generalize Int.tdiv p c.length = u3 at *
    simp only [IntKind.wrap_i64]
    omega
  rw [if_neg (by simpa using h3)] at hq
  refine ask_intro (show n ≠ 0 by omega) ?_
  refine chk_intro (by kernel_rfl) ⟨tellV_v rfl (congrArg (Value.int .i64) ?_), tellHp_box rfl rfl ⟨DLe.refl _, congrArg (Value.int .i64) hw, trivial⟩ tellHp_nil⟩
  rw [← hq, hw2]
  congr 1
  generalize c.getD (Int.tmod p c.length).toNat 0 = u1 at *
  generalize Int.tdiv p c.length = u3 at *
  simp only [IntKind.wrap_i64]
  omega
theorem c_spec_l1Source (c : List Int) : MutOK Try.prog 86 [.d (bytesD c)] 0 [] (.ptr 0 0) 1 [(0, srcBox c 0)] := by
  refine mut_fn_of lv86 Try.func86 rfl rfl (by kernel_rfl) rfl [(0, 4160)] ?_
  refine chk_intro (by kernel_rfl) ⟨⟨rfl, rfl⟩, tellHp_box rfl rfl ⟨DLe.refl _, rfl, trivial⟩ tellHp_nil⟩
theorem c_spec_l1Chance (c : List Int) (hc : okCode c) (p n : Int) (hp : 0 ≤ p) (hp2 : p ≤ 549755813888) : MutOK Try.prog 130 [.ptr 0 0, di n] 1 [(0, srcBox c p)] (dv (.bool (nx c p n == 0))) 1 [(0, srcBox c (p + 1))] := by
  refine mut_fn_of lv130 Try.func130 rfl rfl (by kernel_rfl) rfl [] ?_
  refine .inr ⟨rfl, use_mut ⟨_, _, _, _, _, _, rfl, rfl, c_spec_l1Next c hc p n hp hp2, rfl, ?_⟩⟩
  refine chk_intro (by kernel_rfl) ⟨tellV_v rfl rfl, tellHp_box rfl rfl ⟨DLe.refl _, rfl, trivial⟩ tellHp_nil⟩
/-- what is picked -/
def pk (c : List Int) (p : Int) (l : List Int) : Int := l.getD (nx c p l.length).toNat 0
theorem pk_mem {c : List Int} (hc : okCode c) {p : Int} (hp : 0 ≤ p) {l : List Int} (hl : l ≠ []) : pk c p l ∈ l := by
  have h1 : 1 ≤ (l.length : Int) := by cases l with | nil => exact absurd rfl hl | cons => simp; omega
  have h2 := nx_in hc hp h1
  have h3 : (nx c p l.length).toNat < l.length := by omega
  unfold pk
  simp [List.getD, List.getElem?_eq_getElem h3]
theorem c_spec_l1Pick0 (c : List Int) (hc : okCode c) (p : Int) (l : List Int) (hp : 0 ≤ p) (hp2 : p ≤ 549755813888) (hl : l ≠ []) : MutOK Try.prog 128 [.ptr 0 0, .row 1] 2 [(0, srcBox c p), (1, rowE l)] (di (pk c p l)) 2 [(0, srcBox c (p + 1)), (1, rowE l)] := by
  have h1 : 1 ≤ (l.length : Int) := by cases l with | nil => exact absurd rfl hl | cons => simp; omega
  have h2 := nx_in hc hp h1
  refine mut_fn_of lv128 Try.func128 rfl rfl (by kernel_rfl) rfl [] ?_
  refine .inr ⟨rfl, use_mut ⟨_, _, _, _, _, _, rfl, rfl, c_spec_l1Next c hc p l.length hp hp2, rfl, ?_⟩⟩
  refine ask_intro h2 ?_
  refine ask_intro (show (nx c p l.length).toNat < l.length by omega) ?_
  refine chk_intro (by kernel_rfl) ⟨tellV_v rfl rfl, tellHp_box rfl rfl ⟨DLe.refl _, rfl, trivial⟩ (tellHp_row rfl rfl rfl (fun j hj => rfl) tellHp_nil)⟩
/-- the elements of a literal -/
abbrev litD (l : List Int) (i : Nat) : List D := (l.map fun v => [D.v (.int .i64 v)]).getD i []
theorem litD_eq (l : List Int) (i : Nat) (h : i < l.length) : litD l i = intsF l i := by
  show _ = [D.v (.int .i64 (l.getD i 0))]
  simp [litD, List.getD, h]
theorem c_spec_l1Pick (c : List Int) (hc : okCode c) (p : Int) (l : List Int) (hp : 0 ≤ p) (hp2 : p ≤ 549755813888) (hl : l ≠ []) : MutOK Try.prog 128 [.ptr 0 0, .row 1] 2 [(0, srcBox c p), (1, .row 2 1 l.length (litD l))] (di (pk c p l)) 2 [(0, srcBox c (p + 1)), (1, rowE l)] :=
  (c_spec_l1Pick0 c hc p l hp hp2 hl).rows ⟨rfl, rfl, rfl, ⟨rfl, rfl, rfl, fun i hi => litD_eq l i hi⟩, trivial⟩
theorem pickE (c : List Int) (hc : okCode c) (p : Int) (l : List Int) (hp : 0 ≤ p) (hp2 : p ≤ 549755813888) (hl : l ≠ []) : ∃ v, v ∈ l ∧ MutOK Try.prog 128 [.ptr 0 0, .row 1] 2 [(0, srcBox c p), (1, .row 2 1 l.length (litD l))] (di v) 2 [(0, srcBox c (p + 1)), (1, rowE l)] :=
  ⟨pk c p l, pk_mem hc hp hl, c_spec_l1Pick c hc p l hp hp2 hl⟩
theorem nextE (c : List Int) (hc : okCode c) (p n : Int) (hp : 0 ≤ p) (hp2 : p ≤ 549755813888) (hn : 1 ≤ n) : ∃ v, 0 ≤ v ∧ v < n ∧ MutOK Try.prog 127 [.ptr 0 0, di n] 1 [(0, srcBox c p)] (di v) 1 [(0, srcBox c (p + 1))] :=
  ⟨nx c p n, (nx_in hc hp hn).1, (nx_in hc hp hn).2, c_spec_l1Next c hc p n hp hp2⟩
theorem chanceE (c : List Int) (hc : okCode c) (p n : Int) (hp : 0 ≤ p) (hp2 : p ≤ 549755813888) : ∃ v : Bool, MutOK Try.prog 130 [.ptr 0 0, di n] 1 [(0, srcBox c p)] (dv (.bool v)) 1 [(0, srcBox c (p + 1))] :=
  ⟨_, c_spec_l1Chance c hc p n hp hp2⟩
attribute [irreducible] nx pk
def wd (c : List Int) (p : Int) : Int := pk c (p + 1 + 1 + 1 + 1) [nx c p 90, nx c (p + 1) 9, IntKind.i64.wrap (4294967295 - nx c (p + 1 + 1) 9), 2147483648, 2147483647, 0, IntKind.i64.wrap (nx c (p + 1 + 1 + 1) 60000 * 70000)]
theorem c_spec_l1Word (c : List Int) (hc : okCode c) (p : Int) (hp : 0 ≤ p) (hp2 : p ≤ 274877906944) : MutOK Try.prog 129 [.ptr 0 0] 1 [(0, srcBox c p)] (di (wd c p)) 1 [(0, srcBox c (p + 5))] := by
  refine mut_fn_of lv129 Try.func129 rfl rfl (by kernel_rfl) rfl [] ?_
  refine .inr ⟨rfl, use_mut ⟨_, _, _, _, _, _, rfl, rfl, c_spec_l1Next c hc p 90 (by omega) (by omega), rfl, ?_⟩⟩
  refine .inr ⟨rfl, use_mut ⟨_, _, _, _, _, _, rfl, rfl, c_spec_l1Next c hc (p + 1) 9 (by omega) (by omega), rfl, ?_⟩⟩
  refine .inr ⟨rfl, use_mut ⟨_, _, _, _, _, _, rfl, rfl, c_spec_l1Next c hc (p + 1 + 1) 9 (by omega) (by omega), rfl, ?_⟩⟩
  refine .inr ⟨rfl, use_mut ⟨_, _, _, _, _, _, rfl, rfl, c_spec_l1Next c hc (p + 1 + 1 + 1) 60000 (by omega) (by omega), rfl, ?_⟩⟩
  refine .inr ⟨rfl, use_mut ⟨_, _, _, _, _, _, rfl, rfl, c_spec_l1Pick c hc (p + 1 + 1 + 1 + 1) [nx c p 90, nx c (p + 1) 9, IntKind.i64.wrap (4294967295 - nx c (p + 1 + 1) 9), 2147483648, 2147483647, 0, IntKind.i64.wrap (nx c (p + 1 + 1 + 1) 60000 * 70000)] (by omega) (by omega) (by simp), rfl, ?_⟩⟩
  refine chk_intro (by kernel_rfl) ⟨tellV_v rfl rfl, tellHp_box rfl rfl ⟨DLe.refl _, congrArg (Value.int .i64) (by omega), trivial⟩ tellHp_nil⟩
attribute [irreducible] wd
def wi (c : List Int) (p : Int) : Int := pk c (p + 5 + 5 + 5) [wd c p, wd c (p + 5), wd c (p + 5 + 5), -1, -9223372036854775808, 9223372036854775807, 4294967296, -5]
theorem c_spec_l1Wide (c : List Int) (hc : okCode c) (p : Int) (hp : 0 ≤ p) (hp2 : p ≤ 137438953472) : MutOK Try.prog 131 [.ptr 0 0] 1 [(0, srcBox c p)] (di (wi c p)) 1 [(0, srcBox c (p + 16))] := by
  refine mut_fn_of lv131 Try.func131 rfl rfl (by kernel_rfl) rfl [] ?_
  refine .inr ⟨rfl, use_mut ⟨_, _, _, _, _, _, rfl, rfl, c_spec_l1Word c hc p (by omega) (by omega), rfl, ?_⟩⟩
  refine .inr ⟨rfl, use_mut ⟨_, _, _, _, _, _, rfl, rfl, c_spec_l1Word c hc (p + 5) (by omega) (by omega), rfl, ?_⟩⟩
  refine .inr ⟨rfl, use_mut ⟨_, _, _, _, _, _, rfl, rfl, c_spec_l1Word c hc (p + 5 + 5) (by omega) (by omega), rfl, ?_⟩⟩
  refine .inr ⟨rfl, use_mut ⟨_, _, _, _, _, _, rfl, rfl, c_spec_l1Pick c hc (p + 5 + 5 + 5) [wd c p, wd c (p + 5), wd c (p + 5 + 5), -1, -9223372036854775808, 9223372036854775807, 4294967296, -5] (by omega) (by omega) (by simp), rfl, ?_⟩⟩
  refine chk_intro (by kernel_rfl) ⟨tellV_v rfl rfl, tellHp_box rfl rfl ⟨DLe.refl _, congrArg (Value.int .i64) (by omega), trivial⟩ tellHp_nil⟩
theorem wordE (c : List Int) (hc : okCode c) (p : Int) (hp : 0 ≤ p) (hp2 : p ≤ 274877906944) : ∃ v, MutOK Try.prog 129 [.ptr 0 0] 1 [(0, srcBox c p)] (di v) 1 [(0, srcBox c (p + 5))] := ⟨_, c_spec_l1Word c hc p hp hp2⟩
theorem wideE (c : List Int) (hc : okCode c) (p : Int) (hp : 0 ≤ p) (hp2 : p ≤ 137438953472) : ∃ v, MutOK Try.prog 131 [.ptr 0 0] 1 [(0, srcBox c p)] (di v) 1 [(0, srcBox c (p + 16))] := ⟨_, c_spec_l1Wide c hc p hp hp2⟩
attribute [irreducible] wi
end Go.Proofs.Ytfcekiehcchebaa.L

/- Choices out of a literal of so many numbers: contracts. -/
set_option linter.unusedVariables false
set_option maxRecDepth 100000
namespace Go.Proofs.Ytfcekiehcchebaa.L
open Go.RowKit
theorem pick2 (c : List Int) (hc : okCode c) (p : Int) (a b : Int) (hp : 0 ≤ p) (hp2 : p ≤ 549755813888) : MutOK Try.prog 128 [.ptr 0 0, .row 1] 2 [(0, srcBox c p), (1, .row 2 1 2 (fun i => ([[D.v (.int .i64 a)], [D.v (.int .i64 b)]] : List (List D)).getD i []))] (di (pk c p [a, b])) 2 [(0, srcBox c (p + 1)), (1, rowE [a, b])] := c_spec_l1Pick c hc p [a, b] hp hp2 (by simp)
theorem pick3 (c : List Int) (hc : okCode c) (p : Int) (a b d : Int) (hp : 0 ≤ p) (hp2 : p ≤ 549755813888) : MutOK Try.prog 128 [.ptr 0 0, .row 1] 2 [(0, srcBox c p), (1, .row 2 1 3 (fun i => ([[D.v (.int .i64 a)], [D.v (.int .i64 b)], [D.v (.int .i64 d)]] : List (List D)).getD i []))] (di (pk c p [a, b, d])) 2 [(0, srcBox c (p + 1)), (1, rowE [a, b, d])] := c_spec_l1Pick c hc p [a, b, d] hp hp2 (by simp)
theorem pick4 (c : List Int) (hc : okCode c) (p : Int) (a b d e : Int) (hp : 0 ≤ p) (hp2 : p ≤ 549755813888) : MutOK Try.prog 128 [.ptr 0 0, .row 1] 2 [(0, srcBox c p), (1, .row 2 1 4 (fun i => ([[D.v (.int .i64 a)], [D.v (.int .i64 b)], [D.v (.int .i64 d)], [D.v (.int .i64 e)]] : List (List D)).getD i []))] (di (pk c p [a, b, d, e])) 2 [(0, srcBox c (p + 1)), (1, rowE [a, b, d, e])] := c_spec_l1Pick c hc p [a, b, d, e] hp hp2 (by simp)
theorem pick5 (c : List Int) (hc : okCode c) (p : Int) (a b d e f : Int) (hp : 0 ≤ p) (hp2 : p ≤ 549755813888) : MutOK Try.prog 128 [.ptr 0 0, .row 1] 2 [(0, srcBox c p), (1, .row 2 1 5 (fun i => ([[D.v (.int .i64 a)], [D.v (.int .i64 b)], [D.v (.int .i64 d)], [D.v (.int .i64 e)], [D.v (.int .i64 f)]] : List (List D)).getD i []))] (di (pk c p [a, b, d, e, f])) 2 [(0, srcBox c (p + 1)), (1, rowE [a, b, d, e, f])] := c_spec_l1Pick c hc p [a, b, d, e, f] hp hp2 (by simp)
theorem pick6 (c : List Int) (hc : okCode c) (p : Int) (a b d e f g : Int) (hp : 0 ≤ p) (hp2 : p ≤ 549755813888) : MutOK Try.prog 128 [.ptr 0 0, .row 1] 2 [(0, srcBox c p), (1, .row 2 1 6 (fun i => ([[D.v (.int .i64 a)], [D.v (.int .i64 b)], [D.v (.int .i64 d)], [D.v (.int .i64 e)], [D.v (.int .i64 f)], [D.v (.int .i64 g)]] : List (List D)).getD i []))] (di (pk c p [a, b, d, e, f, g])) 2 [(0, srcBox c (p + 1)), (1, rowE [a, b, d, e, f, g])] := c_spec_l1Pick c hc p [a, b, d, e, f, g] hp hp2 (by simp)
theorem pick7 (c : List Int) (hc : okCode c) (p : Int) (a b d e f g h : Int) (hp : 0 ≤ p) (hp2 : p ≤ 549755813888) : MutOK Try.prog 128 [.ptr 0 0, .row 1] 2 [(0, srcBox c p), (1, .row 2 1 7 (fun i => ([[D.v (.int .i64 a)], [D.v (.int .i64 b)], [D.v (.int .i64 d)], [D.v (.int .i64 e)], [D.v (.int .i64 f)], [D.v (.int .i64 g)], [D.v (.int .i64 h)]] : List (List D)).getD i []))] (di (pk c p [a, b, d, e, f, g, h])) 2 [(0, srcBox c (p + 1)), (1, rowE [a, b, d, e, f, g, h])] := c_spec_l1Pick c hc p [a, b, d, e, f, g, h] hp hp2 (by simp)
end Go.Proofs.Ytfcekiehcchebaa.L

/- What the functions that look at pages and memories compute: contracts. -/
set_option linter.unusedVariables false
set_option linter.unusedSimpArgs false
set_option maxRecDepth 100000
namespace Go.Proofs.Ytfcekiehcchebaa.L
open Go.RowKit
structure PageM where
  to : Int
  kinds : Int
  deriving DecidableEq
abbrev pageD (p : PageM) : List D := [.v (.int .i64 p.to), .v (.int .i64 p.kinds)]
abbrev pagesF (l : List PageM) (i : Nat) : List D := pageD (l.getD i ⟨0, 0⟩)
abbrev pages (l : List PageM) : D := .l l.length (pagesF l)
def firstNZ : List Int → Int
  | [] => 0
  | x :: xs => if x = 0 then firstNZ xs else x
def pageBad (top : Int) (p : PageM) : Int := bif !inR p.to (-1) (top - 1) || !inR p.kinds 0 7 then 3 else bif (p.to == -1) && (p.kinds != 0) then 1 else 0
def pagesFault (l : List PageM) (top : Int) : Int := bif !inR top 1 24 then 3 else bif (l.length : Int) != 8 then 1 else firstNZ (l.map (pageBad top))
theorem map_drop {α : Type} (d : α) (f : α → Int) (l : List α) (i : Nat) (h : i < l.length) : (l.drop i).map f = f (l.getD i d) :: (l.drop (i + 1)).map f := by
  rw [List.drop_eq_getElem_cons h, List.map_cons]
  simp [List.getD, List.getElem?_eq_getElem h]
theorem c_impl_firstOf (l : List Int) (hl : l.length ≤ 1048576) : FnOK Try.prog 73 [.d (ints l)] (ri (firstNZ l)) := by
  refine fn_of lv73 Try.func73 rfl rfl (by kernel_rfl) rfl ?_
  refine ⟨{ i : Nat // i ≤ l.length ∧ firstNZ (l.drop i) = firstNZ l }, fun i => ⟨frL [(5, .d (ints l)), (6, di l.length), (7, di i.1)], hpL [], 0, 0⟩, fun i => l.length - i.1, ⟨0, by simp⟩, le_of [] rfl rfl rfl rfl trivial (tellFr_d rfl (DLe.refl _) (tellFr_v rfl rfl (tellFr_v rfl rfl trivial))), ?_⟩
  rintro ⟨i, hi, hall⟩
  refine bsplit_intro (fun h => ?_) (fun h => ?_)
  · have h : i < l.length := by simp at h; exact h
    have hd : firstNZ (l.drop i) = if l.getD i 0 = 0 then firstNZ (l.drop (i + 1)) else l.getD i 0 := by rw [drop_cons l i h]; rfl
    refine ask_intro ⟨by omega, by simp; omega, rfl⟩ ?_
    refine bsplit_intro (fun h2 => ?_) (fun h2 => ?_)
    · have h2 : ¬ l.getD i 0 = 0 := by simpa using h2
      refine ⟨⟨congrArg (Value.int .i64) ?_, trivial⟩, rfl⟩
      show l.getD i 0 = _
      rw [← hall, hd, if_neg h2]
    · have h2 : l.getD i 0 = 0 := by simpa using h2
      refine ⟨⟨i + 1, by omega, by rw [← hall, hd, if_pos h2]⟩, le_of [] rfl rfl rfl rfl trivial (tellFr_d rfl (DLe.refl _) (tellFr_v rfl rfl (tellFr_v rfl (congrArg (Value.int .i64) (?_ : IntKind.i64.wrap ((i : Int) + 1) = ((i + 1 : Nat) : Int))) trivial))), by show l.length - (i + 1) < l.length - i; omega⟩
      exact wrap_i64 (i + 1) (by omega) (by omega)
  · refine ⟨⟨congrArg (Value.int .i64) ?_, trivial⟩, rfl⟩
    simp at h
    rw [← hall, List.drop_eq_nil_of_le h]; rfl
theorem c_spec_PagesFault (l : List PageM) (top : Int) (hl : l.length ≤ 1048576) : FnOK Try.prog 71 [.d (pages l), di top] (ri (pagesFault l top)) := by
  generalize hr : pagesFault l top = r
  unfold pagesFault at hr
  refine fn_of lv71 Try.func71 rfl rfl (by kernel_rfl) rfl ?_
  refine .inl ⟨_, _, rfl, c_spec_l1In top 1 24, rfl, ?_⟩
  refine bsplit_intro (fun h => ?_) (fun h => ?_)
  · rw [h] at hr
    exact ⟨⟨congrArg (Value.int .i64) hr, trivial⟩, rfl⟩
  have ht := inR_iff.1 (show inR top 1 24 = true by simpa using h)
  rw [h] at hr
  have hw : IntKind.i64.wrap (top - 1) = top - 1 := wrap_i64 _ (by omega) (by omega)
  refine bsplit_intro (fun h1 => ?_) (fun h1 => ?_)
  · rw [h1] at hr
    exact ⟨⟨congrArg (Value.int .i64) hr, trivial⟩, rfl⟩
  rw [h1] at hr
  simp only [cond_false] at hr
  refine ⟨{ i : Nat // i ≤ l.length ∧ firstNZ ((l.drop i).map (pageBad top)) = r }, fun i => ⟨frL [(0, .d (pages l)), (1, di top), (5, di i.1)], hpL [], 0, 0⟩, fun i => l.length - i.1, ⟨0, by omega, by simpa using hr⟩, le_of [] rfl rfl rfl rfl trivial (tellFr_d rfl (DLe.refl _) (tellFr_v rfl rfl (tellFr_v rfl rfl trivial))), ?_⟩
  rintro ⟨i, hi, hall⟩
  refine bsplit_intro (fun h => ?_) (fun h => ?_)
  · have h : i < l.length := by simp at h; exact h
    rw [map_drop ⟨0, 0⟩ _ _ _ h] at hall
    have hwi : IntKind.i64.wrap ((i : Int) + 1) = ((i + 1 : Nat) : Int) := wrap_i64 (i + 1) (by omega) (by omega)
    obtain ⟨b, hb⟩ : ∃ b, b = pageBad top (l.getD i ⟨0, 0⟩) := ⟨_, rfl⟩
    rw [← hb] at hall
    unfold pageBad at hb
    refine ask_intro ⟨by omega, by simp; omega, rfl⟩ ?_
    refine .inl ⟨_, _, rfl, c_spec_l1In _ _ _, rfl, ?_⟩
    repeat' (first | refine bsplit_true ?_ | refine bsplit_false ?_)
    have e1 : inR (l.getD i ⟨0, 0⟩).to (-1) (IntKind.i64.wrap (top - 1)) = inR (l.getD i ⟨0, 0⟩).to (-1) (top - 1) := by rw [hw]
    have stop : ∀ v : Int, b = v → v ≠ 0 → v = r := fun v e n => by rw [← hall, e]; simp [firstNZ, n]
    have go : b = 0 → firstNZ ((l.drop (i + 1)).map (pageBad top)) = r := fun e => by rw [← hall, e]; simp [firstNZ]
    refine bsplit_intro (fun h2 => ?_) (fun h2 => ?_)
    · have h2 : (!inR (l.getD i ⟨0, 0⟩).to (-1) (top - 1)) = true := by rw [← e1]; exact h2
      repeat' (first | refine bsplit_true ?_ | refine bsplit_false ?_)
      exact ⟨⟨congrArg (Value.int .i64) (stop 3 (by rw [hb, h2]; rfl) (by decide)), trivial⟩, rfl⟩
    have h2 : (!inR (l.getD i ⟨0, 0⟩).to (-1) (top - 1)) = false := by rw [← e1]; exact h2
    repeat' (first | refine bsplit_true ?_ | refine bsplit_false ?_)
    refine ask_intro ⟨by omega, by simp; omega, rfl⟩ ?_
    repeat' (first | refine bsplit_true ?_ | refine bsplit_false ?_)
    refine .inl ⟨_, _, rfl, c_spec_l1In _ _ _, rfl, ?_⟩
    repeat' (first | refine bsplit_true ?_ | refine bsplit_false ?_)
    refine bsplit_intro (fun h3 => ?_) (fun h3 => ?_)
    · have h3 : (!inR (l.getD i ⟨0, 0⟩).kinds 0 7) = true := h3
      exact ⟨⟨congrArg (Value.int .i64) (stop 3 (by rw [hb, h2, h3]; rfl) (by decide)), trivial⟩, rfl⟩
    have h3 : (!inR (l.getD i ⟨0, 0⟩).kinds 0 7) = false := h3
    have r2 := inR_iff.1 (show inR (l.getD i ⟨0, 0⟩).to (-1) (top - 1) = true by simpa using h2)
    refine ask_intro ⟨by omega, by simp; omega, rfl⟩ ?_
    refine bsplit_intro (fun h4 => ?_) (fun h4 => ?_)
    · have h4 : decide ((l.getD i ⟨0, 0⟩).to < 0) = true := h4
      have q : ((l.getD i ⟨0, 0⟩).to == -1) = true := by
        have : (l.getD i ⟨0, 0⟩).to < 0 := of_decide_eq_true h4
        exact beq_iff_eq.2 (by omega)
      repeat' (first | refine bsplit_true ?_ | refine bsplit_false ?_)
      refine ask_intro ⟨by omega, by simp; omega, rfl⟩ ?_
      repeat' (first | refine bsplit_true ?_ | refine bsplit_false ?_)
      refine bsplit_intro (fun h5 => ?_) (fun h5 => ?_)
      · have h5 : ((l.getD i ⟨0, 0⟩).kinds != 0) = true := h5
        exact ⟨⟨congrArg (Value.int .i64) (stop 1 (by rw [hb, h2, h3, q, h5]; rfl) (by decide)), trivial⟩, rfl⟩
      · have h5 : ((l.getD i ⟨0, 0⟩).kinds != 0) = false := h5
        exact ⟨⟨i + 1, by omega, go (by rw [hb, h2, h3, q, h5]; rfl)⟩, le_of [] rfl rfl rfl rfl trivial (tellFr_d rfl (DLe.refl _) (tellFr_v rfl rfl (tellFr_v rfl (congrArg (Value.int .i64) hwi) trivial))), by show l.length - (i + 1) < l.length - i; omega⟩
    · have h4 : decide ((l.getD i ⟨0, 0⟩).to < 0) = false := h4
      have q : ((l.getD i ⟨0, 0⟩).to == -1) = false := by
        have : ¬ (l.getD i ⟨0, 0⟩).to < 0 := of_decide_eq_false h4
        exact beq_eq_false_iff_ne.2 (by omega)
      repeat' (first | refine bsplit_true ?_ | refine bsplit_false ?_)
      exact ⟨⟨i + 1, by omega, go (by rw [hb, h2, h3, q]; rfl)⟩, le_of [] rfl rfl rfl rfl trivial (tellFr_d rfl (DLe.refl _) (tellFr_v rfl rfl (tellFr_v rfl (congrArg (Value.int .i64) hwi) trivial))), by show l.length - (i + 1) < l.length - i; omega⟩
  · refine ⟨⟨congrArg (Value.int .i64) ?_, trivial⟩, rfl⟩
    simp at h
    rw [← hall, List.drop_eq_nil_of_le h]; rfl
theorem c_impl_PagesFault (l : List PageM) (top : Int) (hl : l.length ≤ 1048576) : FnOK Try.prog 74 [.d (pages l), di top] (ri (pagesFault l top)) := by
  generalize hr : pagesFault l top = r
  unfold pagesFault at hr
  refine fn_of lv74 Try.func74 rfl rfl (by kernel_rfl) rfl ?_
  refine .inl ⟨_, _, rfl, c_impl_within top 1 24, rfl, ?_⟩
  refine bsplit_intro (fun h => ?_) (fun h => ?_)
  · rw [h] at hr
    exact ⟨⟨congrArg (Value.int .i64) hr, trivial⟩, rfl⟩
  have ht := inR_iff.1 (show inR top 1 24 = true by simpa using h)
  rw [h] at hr
  have hw : IntKind.i64.wrap (top - 1) = top - 1 := wrap_i64 _ (by omega) (by omega)
  refine bsplit_intro (fun h1 => ?_) (fun h1 => ?_)
  · rw [h1] at hr
    exact ⟨⟨congrArg (Value.int .i64) hr, trivial⟩, rfl⟩
  rw [h1] at hr
  simp only [cond_false] at hr
  refine ⟨{ i : Nat // i ≤ l.length ∧ firstNZ ((l.drop i).map (pageBad top)) = r }, fun i => ⟨frL [(1, di top), (15, .d (pages l)), (16, di l.length), (17, di i.1)], hpL [], 0, 0⟩, fun i => l.length - i.1, ⟨0, by omega, by simpa using hr⟩, le_of [] rfl rfl rfl rfl trivial (tellFr_v rfl rfl (tellFr_d rfl (DLe.refl _) (tellFr_v rfl rfl (tellFr_v rfl rfl trivial)))), ?_⟩
  rintro ⟨i, hi, hall⟩
  refine bsplit_intro (fun h => ?_) (fun h => ?_)
  · have h : i < l.length := by simp at h; exact h
    rw [map_drop ⟨0, 0⟩ _ _ _ h] at hall
    have hwi : IntKind.i64.wrap ((i : Int) + 1) = ((i + 1 : Nat) : Int) := wrap_i64 (i + 1) (by omega) (by omega)
    obtain ⟨b, hb⟩ : ∃ b, b = pageBad top (l.getD i ⟨0, 0⟩) := ⟨_, rfl⟩
    rw [← hb] at hall
    unfold pageBad at hb
    refine ask_intro ⟨by omega, by simp; omega, rfl⟩ ?_
    refine .inl ⟨_, _, rfl, c_impl_within _ _ _, rfl, ?_⟩
    repeat' (first | refine bsplit_true ?_ | refine bsplit_false ?_)
    have e1 : inR (l.getD i ⟨0, 0⟩).to (-1) (IntKind.i64.wrap (top - 1)) = inR (l.getD i ⟨0, 0⟩).to (-1) (top - 1) := by rw [hw]
    have stop : ∀ v : Int, b = v → v ≠ 0 → v = r := fun v e n => by rw [← hall, e]; simp [firstNZ, n]
    have go : b = 0 → firstNZ ((l.drop (i + 1)).map (pageBad top)) = r := fun e => by rw [← hall, e]; simp [firstNZ]
    refine bsplit_intro (fun h2 => ?_) (fun h2 => ?_)
    · have h2 : (!inR (l.getD i ⟨0, 0⟩).to (-1) (top - 1)) = true := by rw [← e1]; exact h2
      repeat' (first | refine bsplit_true ?_ | refine bsplit_false ?_)
      exact ⟨⟨congrArg (Value.int .i64) (stop 3 (by rw [hb, h2]; rfl) (by decide)), trivial⟩, rfl⟩
    have h2 : (!inR (l.getD i ⟨0, 0⟩).to (-1) (top - 1)) = false := by rw [← e1]; exact h2
    repeat' (first | refine bsplit_true ?_ | refine bsplit_false ?_)
    refine .inl ⟨_, _, rfl, c_impl_within _ _ _, rfl, ?_⟩
    repeat' (first | refine bsplit_true ?_ | refine bsplit_false ?_)
    refine bsplit_intro (fun h3 => ?_) (fun h3 => ?_)
    · have h3 : (!inR (l.getD i ⟨0, 0⟩).kinds 0 7) = true := h3
      exact ⟨⟨congrArg (Value.int .i64) (stop 3 (by rw [hb, h2, h3]; rfl) (by decide)), trivial⟩, rfl⟩
    have h3 : (!inR (l.getD i ⟨0, 0⟩).kinds 0 7) = false := h3
    refine bsplit_intro (fun h4 => ?_) (fun h4 => ?_)
    · have h4 : ((l.getD i ⟨0, 0⟩).to == -1) = true := h4
      repeat' (first | refine bsplit_true ?_ | refine bsplit_false ?_)
      refine bsplit_intro (fun h5 => ?_) (fun h5 => ?_)
      · have h5 : ((l.getD i ⟨0, 0⟩).kinds != 0) = true := h5
        exact ⟨⟨congrArg (Value.int .i64) (stop 1 (by rw [hb, h2, h3, h4, h5]; rfl) (by decide)), trivial⟩, rfl⟩
      · have h5 : ((l.getD i ⟨0, 0⟩).kinds != 0) = false := h5
        exact ⟨⟨i + 1, by omega, go (by rw [hb, h2, h3, h4, h5]; rfl)⟩, le_of [] rfl rfl rfl rfl trivial (tellFr_v rfl rfl (tellFr_d rfl (DLe.refl _) (tellFr_v rfl rfl (tellFr_v rfl (congrArg (Value.int .i64) hwi) trivial)))), by show l.length - (i + 1) < l.length - i; omega⟩
    · have h4 : ((l.getD i ⟨0, 0⟩).to == -1) = false := h4
      repeat' (first | refine bsplit_true ?_ | refine bsplit_false ?_)
      exact ⟨⟨i + 1, by omega, go (by rw [hb, h2, h3, h4]; rfl)⟩, le_of [] rfl rfl rfl rfl trivial (tellFr_v rfl rfl (tellFr_d rfl (DLe.refl _) (tellFr_v rfl rfl (tellFr_v rfl (congrArg (Value.int .i64) hwi) trivial)))), by show l.length - (i + 1) < l.length - i; omega⟩
  · refine ⟨⟨congrArg (Value.int .i64) ?_, trivial⟩, rfl⟩
    simp at h
    rw [← hall, List.drop_eq_nil_of_le h]; rfl
def memFault (m : List Int) : Int := bif ((m.length : Int) == 0) || (decide ((m.length : Int) > 192) || (Int.tmod m.length 8 != 0)) then 1 else bif !m.all isW then 3 else 0
theorem c_impl_MemoryFault (l : List Int) (hl : l.length ≤ 1048576) : FnOK Try.prog 75 [.d (ints l)] (ri (memFault l)) := by
  generalize hr : memFault l = r
  unfold memFault at hr
  refine fn_of lv75 Try.func75 rfl rfl (by kernel_rfl) rfl ?_
  refine bsplit_intro (fun h => ?_) (fun h => ?_)
  · repeat' (first | refine bsplit_true ?_ | refine bsplit_false ?_)
    rw [h] at hr
    exact ⟨⟨congrArg (Value.int .i64) hr, trivial⟩, rfl⟩
  repeat' (first | refine bsplit_true ?_ | refine bsplit_false ?_)
  refine bsplit_intro (fun h1 => ?_) (fun h1 => ?_)
  · repeat' (first | refine bsplit_true ?_ | refine bsplit_false ?_)
    rw [h, h1] at hr
    exact ⟨⟨congrArg (Value.int .i64) hr, trivial⟩, rfl⟩
  repeat' (first | refine bsplit_true ?_ | refine bsplit_false ?_)
  refine ask_intro (by decide) ?_
  repeat' (first | refine bsplit_true ?_ | refine bsplit_false ?_)
  refine bsplit_intro (fun h2 => ?_) (fun h2 => ?_)
  · repeat' (first | refine bsplit_true ?_ | refine bsplit_false ?_)
    rw [h, h1, h2] at hr
    exact ⟨⟨congrArg (Value.int .i64) hr, trivial⟩, rfl⟩
  repeat' (first | refine bsplit_true ?_ | refine bsplit_false ?_)
  rw [h, h1, h2] at hr
  refine .inl ⟨_, _, rfl, c_impl_areWords l (by omega), rfl, ?_⟩
  refine bsplit_intro (fun h3 => ?_) (fun h3 => ?_)
  · rw [h3] at hr
    exact ⟨⟨congrArg (Value.int .i64) hr, trivial⟩, rfl⟩
  · rw [h3] at hr
    exact ⟨⟨congrArg (Value.int .i64) hr, trivial⟩, rfl⟩
theorem c_spec_MemoryFault (l : List Int) (hl : l.length ≤ 1048576) : FnOK Try.prog 72 [.d (ints l)] (ri (memFault l)) := by
  generalize hr : memFault l = r
  unfold memFault at hr
  have bad : (((l.length : Int) == 0) || (decide ((l.length : Int) > 192) || (Int.tmod l.length 8 != 0))) = true → 1 = r := fun e => by rw [← hr, e]; rfl
  have tm : Int.tmod (l.length : Int) 8 = ((l.length % 8 : Nat) : Int) := rfl
  refine fn_of lv72 Try.func72 rfl rfl (by kernel_rfl) rfl ?_
  refine ask_intro (by decide) ?_
  refine bsplit_intro (fun h => ?_) (fun h => ?_)
  · repeat' (first | refine bsplit_true ?_ | refine bsplit_false ?_)
    exact ⟨⟨congrArg (Value.int .i64) (bad (by rw [h]; simp)), trivial⟩, rfl⟩
  repeat' (first | refine bsplit_true ?_ | refine bsplit_false ?_)
  have h' : l.length % 8 = 0 := by rw [tm] at h; simp at h; omega
  refine bsplit_intro (fun h1 => ?_) (fun h1 => ?_)
  · repeat' (first | refine bsplit_true ?_ | refine bsplit_false ?_)
    have h0 : l.length = 0 := by simp at h1; omega
    exact ⟨⟨congrArg (Value.int .i64) (bad (by simp [h0])), trivial⟩, rfl⟩
  repeat' (first | refine bsplit_true ?_ | refine bsplit_false ?_)
  refine bsplit_intro (fun h2 => ?_) (fun h2 => ?_)
  · exact ⟨⟨congrArg (Value.int .i64) (bad (by rw [h2]; simp)), trivial⟩, rfl⟩
  have hz : ((l.length : Int) == 0) = false := beq_eq_false_iff_ne.2 (by have : ¬ (l.length : Int) < 8 := of_decide_eq_false h1; omega)
  rw [hz, h2, h] at hr
  have hr : (bif !l.all isW then (3 : Int) else 0) = r := hr
  refine ⟨{ i : Nat // i ≤ l.length ∧ (l.drop i).all isW = l.all isW }, fun i => ⟨frL [(0, .d (ints l)), (3, di i.1)], hpL [], 0, 0⟩, fun i => l.length - i.1, ⟨0, by simp⟩, le_of [] rfl rfl rfl rfl trivial (tellFr_d rfl (DLe.refl _) (tellFr_v rfl rfl trivial)), ?_⟩
  rintro ⟨i, hi, hall⟩
  refine bsplit_intro (fun h3 => ?_) (fun h3 => ?_)
  · have h3 : i < l.length := by simp at h3; exact h3
    have hwi : IntKind.i64.wrap ((i : Int) + 1) = ((i + 1 : Nat) : Int) := wrap_i64 (i + 1) (by omega) (by omega)
    rw [drop_all l isW i h3] at hall
    refine ask_intro ⟨by omega, by simp; omega, rfl⟩ ?_
    refine .inl ⟨_, _, rfl, c_spec_l1In _ _ _, rfl, ?_⟩
    refine bsplit_intro (fun h4 => ?_) (fun h4 => ?_)
    · have h4 : isW (l.getD i 0) = false := by simpa [isW] using h4
      rw [h4] at hall
      rw [← hall] at hr
      exact ⟨⟨congrArg (Value.int .i64) hr, trivial⟩, rfl⟩
    · have h4 : isW (l.getD i 0) = true := by simpa [isW] using h4
      rw [h4, Bool.true_and] at hall
      exact ⟨⟨i + 1, by omega, hall⟩, le_of [] rfl rfl rfl rfl trivial (tellFr_d rfl (DLe.refl _) (tellFr_v rfl (congrArg (Value.int .i64) hwi) trivial)), by show l.length - (i + 1) < l.length - i; omega⟩
  · simp at h3
    rw [List.drop_eq_nil_of_le h3] at hall
    rw [← hall] at hr
    exact ⟨⟨congrArg (Value.int .i64) hr, trivial⟩, rfl⟩
end Go.Proofs.Ytfcekiehcchebaa.L

/- What the law functions compute on pages and lonely machines: contracts. -/
set_option linter.unusedVariables false
set_option linter.unusedSimpArgs false
set_option maxRecDepth 100000
namespace Go.Proofs.Ytfcekiehcchebaa.L
open Go.RowKit
abbrev pageLV (p : PageM) : LV := .agg [di p.to, di p.kinds]
abbrev oPages (l : List PageM) : RC := .own 129 2 l.length (pagesF l)
theorem c_laws_toPage (p : PageM) : FnOK Try.prog 98 [pageLV p] (.r (.agg [.v (.int .i64 p.to), .v (.int .i64 p.kinds)])) := by
  refine fn_of lv98 Try.func98 rfl rfl (by kernel_rfl) rfl ?_
  exact ⟨⟨rfl, rfl, trivial⟩, rfl⟩
theorem c_laws_toPageS (l : List PageM) (hl : l.length * 16 ≤ 140737488355328) : FnOK Try.prog 45 [.d (pages l)] (.r (.one (oPages l))) := by
  refine fn_of lv45 Try.func45 rfl rfl (by kernel_rfl) rfl ?_
  refine ask_intro ⟨rfl, by omega, by show (l.length : Int) * 16 ≤ 140737488355328; omega, by omega⟩ ?_
  refine ⟨{ i : Nat // i ≤ l.length }, fun i => ⟨frL [(0, .d (pages l)), (3, .row 96), (4, di i.1)], hpL [(96, .row 129 2 l.length fun j => if j < i.1 then pagesF l j else pageD ⟨0, 0⟩)], 97, 0⟩, fun i => l.length - i.1, ⟨0, by omega⟩,
    le_of [(96, 4160)] rfl rfl rfl rfl (tellHp_row rfl rfl rfl (fun i hi => rfl) tellHp_nil) (tellFr_d rfl (DLe.refl _) (tellFr_row rfl rfl (tellFr_v rfl rfl trivial))), ?_⟩
  rintro ⟨i, hi⟩
  refine bsplit_intro (fun h => ?_) (fun h => ?_)
  · have h : i < l.length := by simp at h; exact h
    refine ask_intro ⟨by omega, by simp; omega, rfl⟩ ?_
    refine .inl ⟨_, _, rfl, c_laws_toPage (l.getD i ⟨0, 0⟩), rfl, ?_⟩
    refine ask_intro ⟨by omega, by simp; omega⟩ ?_
    refine ask_intro (by show i < l.length; exact h) ?_
    refine ⟨⟨i + 1, by omega⟩, le_of [(96, 96)] rfl rfl rfl rfl (tellHp_row rfl rfl rfl (fun j hj => ?_) tellHp_nil) (tellFr_d rfl (DLe.refl _) (tellFr_row rfl rfl (tellFr_v rfl (congrArg (Value.int .i64) (?_ : IntKind.i64.wrap ((i : Int) + 1) = ((i + 1 : Nat) : Int))) trivial))), ?_⟩
    · show (if j = i then splice (if j < i then pagesF l j else pageD ⟨0, 0⟩) 0 (pageD (l.getD i ⟨0, 0⟩)) else if j < i then pagesF l j else pageD ⟨0, 0⟩) = if j < i + 1 then pagesF l j else pageD ⟨0, 0⟩
      by_cases h1 : j = i
      · subst h1
        rw [if_pos rfl, if_neg (by omega), if_pos (by omega)]
        rfl
      · rw [if_neg h1]
        by_cases h2 : j < i
        · rw [if_pos h2, if_pos (by omega)]
        · rw [if_neg h2, if_neg (by omega)]
    · exact wrap_i64 (i + 1) (by omega) (by omega)
    · show l.length - (i + 1) < l.length - i
      omega
  · simp at h
    refine ⟨⟨⟨rfl, rfl, rfl, fun j hj => ⟨?_, rfl⟩⟩, trivial⟩, rfl⟩
    show (if j < i then pagesF l j else _) = _
    rw [if_pos (by omega)]
theorem c_laws_szPageS (l : List PageM) (q : Int) (hq : -9223372036854775808 ≤ q - l.length) (hq2 : q - l.length < 9223372036854775808) : FnOK Try.prog 43 [.d (pages l), di q] (ri (if q - l.length < 0 then -1 else q - l.length)) := by
  refine fn_of lv43 Try.func43 rfl rfl rfl rfl ?_
  refine bsplit_intro (fun h => ?_) (fun h => ?_)
  · refine ⟨⟨congrArg (Value.int .i64) (?_ : (-1 : Int) = _), trivial⟩, rfl⟩
    rw [wrap_i64 _ hq hq2] at h
    simp only [decide_eq_true_eq] at h
    rw [if_pos h]
  · refine ⟨⟨congrArg (Value.int .i64) (?_ : IntKind.i64.wrap (q - l.length) = _), trivial⟩, rfl⟩
    rw [wrap_i64 _ hq hq2] at h ⊢
    simp only [decide_eq_false_iff_not] at h
    rw [if_neg h]
theorem c_laws_eqPage (p q : PageM) : FnOK Try.prog 101 [pageLV p, pageLV q] (rb (decide (p = q))) := by
  refine fn_of lv101 Try.func101 rfl rfl (by kernel_rfl) rfl ?_
  repeat' (first | refine bsplit_true ?_ | refine bsplit_false ?_ | refine bsplit_intro (fun h => ?_) (fun h => ?_))
  all_goals refine ⟨⟨congrArg Value.bool ?_, trivial⟩, rfl⟩
  all_goals (obtain ⟨a1, a2⟩ := p; obtain ⟨b1, b2⟩ := q; simp_all)
theorem drop_consG {α : Type} (d : α) (l : List α) (i : Nat) (h : i < l.length) : l.drop i = l.getD i d :: l.drop (i + 1) :=
  (List.drop_eq_getElem_cons h).trans (by rw [show l[i] = l.getD i d by simp [List.getD, List.getElem?_eq_getElem h]])
theorem c_laws_eqPageS (l m : List PageM) (hl : l.length ≤ 9223372036854775807) : FnOK Try.prog 49 [.d (pages l), .d (pages m)] (rb (decide (l = m))) := by
  refine fn_of lv49 Try.func49 rfl rfl (by kernel_rfl) rfl ?_
  refine bsplit_intro (fun h => ?_) (fun h => ?_)
  · refine ⟨⟨congrArg Value.bool (?_ : false = _), trivial⟩, rfl⟩
    simp at h
    symm
    rw [decide_eq_false_iff_not]
    rintro rfl
    exact h rfl
  have hlen : l.length = m.length := by simp at h; omega
  refine ⟨{ i : Nat // i ≤ l.length ∧ decide (l.drop i = m.drop i) = decide (l = m) }, fun i => ⟨frL [(0, .d (pages l)), (1, .d (pages m)), (5, di i.1)], hpL [], 0, 0⟩, fun i => l.length - i.1, ⟨0, by simp⟩,
    le_of [] rfl rfl rfl rfl trivial (tellFr_d rfl (DLe.refl _) (tellFr_d rfl (DLe.refl _) (tellFr_v rfl rfl trivial))), ?_⟩
  rintro ⟨i, hi, hall⟩
  refine bsplit_intro (fun h => ?_) (fun h => ?_)
  · have h : i < l.length := by simp at h; exact h
    rw [drop_consG ⟨0, 0⟩ l i h, drop_consG ⟨0, 0⟩ m i (by omega)] at hall
    refine ask_intro ⟨by omega, by simp; omega, rfl⟩ ?_
    refine ask_intro ⟨by omega, by simp; omega, rfl⟩ ?_
    refine .inl ⟨_, _, rfl, c_laws_eqPage (l.getD i ⟨0, 0⟩) (m.getD i ⟨0, 0⟩), rfl, ?_⟩
    refine chk_intro (by kernel_rfl) ?_
    refine bsplit_intro (fun h2 => ?_) (fun h2 => ?_)
    · refine ⟨⟨congrArg Value.bool (?_ : false = _), trivial⟩, rfl⟩
      have h2 : ¬ l.getD i ⟨0, 0⟩ = m.getD i ⟨0, 0⟩ := by simpa only [Bool.not_eq_true', decide_eq_false_iff_not] using h2
      rw [← hall]
      symm
      rw [decide_eq_false_iff_not]
      intro e
      exact h2 (List.cons.inj e).1
    · have h2 : l.getD i ⟨0, 0⟩ = m.getD i ⟨0, 0⟩ := by simpa only [Bool.not_eq_false', decide_eq_true_eq] using h2
      rw [h2] at hall
      refine ⟨⟨i + 1, by omega, by rw [← hall]; simp⟩, le_of [] rfl rfl rfl rfl trivial (tellFr_d rfl (DLe.refl _) (tellFr_d rfl (DLe.refl _) (tellFr_v rfl (congrArg (Value.int .i64) (?_ : IntKind.i64.wrap ((i : Int) + 1) = ((i + 1 : Nat) : Int))) trivial))), by show l.length - (i + 1) < l.length - i; omega⟩
      exact wrap_i64 (i + 1) (by omega) (by omega)
  · refine ⟨⟨congrArg Value.bool (?_ : true = _), trivial⟩, rfl⟩
    simp at h
    rw [← hall, List.drop_eq_nil_of_le h, List.drop_eq_nil_of_le (by omega)]; simp
end Go.Proofs.Ytfcekiehcchebaa.L

/- The law function over a machine that is rung answers true. -/
set_option linter.unusedVariables false
set_option linter.unusedSimpArgs false
set_option maxRecDepth 100000
namespace Go.Proofs.Ytfcekiehcchebaa.L
open Go.RowKit
theorem few_of_sz {m : HartM} (h : decide (hSz m 1048576 < 0) = false) : m.few := by
  simp only [decide_eq_false_iff_not] at h
  unfold hSz at h
  simp only at h
  split at h
  · omega
  · rename_i h2
    exact ⟨by omega, by omega, by omega, by omega⟩
theorem hartZ_few : hartZ.few ∧ hartZ.small := ⟨⟨by decide, by decide, by decide, by decide⟩, ⟨by decide, by decide, by decide, by decide⟩⟩
theorem ringHart_few (m : HartM) (hf : m.few) (hs : m.small) : (ringHart m).2.few ∧ (ringHart m).2.small := by
  unfold ringHart
  split
  · exact ⟨⟨hf.regs, hf.csr, hf.inp, hf.out⟩, ⟨hs.regs, hs.csr, hs.inp, hs.out⟩⟩
  · exact hartZ_few
end Go.Proofs.Ytfcekiehcchebaa.L

/- What the functions that look at a lonely machine compute: contracts. -/
set_option linter.unusedVariables false
set_option linter.unusedSimpArgs false
set_option maxRecDepth 100000
namespace Go.Proofs.Ytfcekiehcchebaa.L
open Go.RowKit
theorem LVLe.pre (xs ys : List D) : LVLe (.dptr (xs ++ ys)) (.dptr xs) := fun W F v hv => by
  cases hv with
  | dptr vs hs hI hc hr =>
    refine .dptr vs hs hI (fun j hj => hc j (by simp; omega)) (fun j hj => ?_)
    have := hr j (by simp; omega)
    have e : (xs ++ ys).getD j (.v undef) = xs.getD j (.v undef) := by simp [List.getD, List.getElem?_append, hj]
    rwa [e] at this
structure SoloM where
  hart : HartM
  pages : List PageM
  mem : List Int
  deriving DecidableEq
abbrev soloD (x : SoloM) : List D := [ints x.hart.regs, dI x.hart.pc, ints x.hart.csr, dB x.hart.halted, dB x.hart.waiting, dB x.hart.rung, dI x.hart.done, ints x.hart.inp, ints x.hart.out, Go.Proofs.Ytfcekiehcchebaa.L.pages x.pages, ints x.mem]
abbrev soloLV (x : SoloM) : LV := .agg [.d (ints x.hart.regs), di x.hart.pc, .d (ints x.hart.csr), dv (.bool x.hart.halted), dv (.bool x.hart.waiting), dv (.bool x.hart.rung), di x.hart.done, .d (ints x.hart.inp), .d (ints x.hart.out), .d (Go.Proofs.Ytfcekiehcchebaa.L.pages x.pages), .d (ints x.mem)]
abbrev soloR (x : SoloM) : RV1 := .agg [oInts x.hart.regs, .v (.int .i64 x.hart.pc), oInts x.hart.csr, .v (.bool x.hart.halted), .v (.bool x.hart.waiting), .v (.bool x.hart.rung), .v (.int .i64 x.hart.done), oInts x.hart.inp, oInts x.hart.out, oPages x.pages, oInts x.mem]
structure SoloM.small (x : SoloM) : Prop where
  hart : x.hart.small
  pages : x.pages.length * 16 ≤ 140737488355328
  mem : x.mem.length * 8 ≤ 140737488355328
theorem c_laws_toSolo (x : SoloM) (hs : x.small) : FnOK Try.prog 15 [soloLV x] (.r (soloR x)) := by
  refine fn_of lv15 Try.func15 rfl rfl (by kernel_rfl) rfl ?_
  refine .inl ⟨_, _, rfl, c_laws_toHart x.hart hs.hart, rfl, ?_⟩
  refine .inl ⟨_, _, rfl, c_laws_toPageS x.pages hs.pages, rfl, ?_⟩
  refine .inl ⟨_, _, rfl, c_laws_toInt64S x.mem hs.mem, rfl, ?_⟩
  exact ⟨⟨⟨rfl, rfl, rfl, fun i hi => ⟨rfl, rfl⟩⟩, rfl, ⟨rfl, rfl, rfl, fun i hi => ⟨rfl, rfl⟩⟩, rfl, rfl, rfl, rfl, ⟨rfl, rfl, rfl, fun i hi => ⟨rfl, rfl⟩⟩, ⟨rfl, rfl, rfl, fun i hi => ⟨rfl, rfl⟩⟩, ⟨rfl, rfl, rfl, fun i hi => ⟨rfl, rfl⟩⟩, ⟨rfl, rfl, rfl, fun i hi => ⟨rfl, rfl⟩⟩, trivial⟩, rfl⟩
theorem c_laws_eqSolo (x y : SoloM) (hs : x.small) : FnOK Try.prog 17 [soloLV x, soloLV y] (rb (decide (x = y))) := by
  have hp := hs.pages
  have hm := hs.mem
  refine fn_of lv17 Try.func17 rfl rfl (by kernel_rfl) rfl ?_
  refine .inl ⟨_, _, rfl, c_laws_eqHart x.hart y.hart hs.hart, rfl, ?_⟩
  refine bsplit_intro (fun h => ?_) (fun h => ?_)
  · refine ⟨⟨congrArg Value.bool ?_, trivial⟩, rfl⟩
    obtain ⟨a1, a2, a3⟩ := x; obtain ⟨b1, b2, b3⟩ := y; simp_all
  refine .inl ⟨_, _, rfl, c_laws_eqPageS x.pages y.pages (by omega), rfl, ?_⟩
  refine bsplit_intro (fun h1 => ?_) (fun h1 => ?_)
  · refine ⟨⟨congrArg Value.bool ?_, trivial⟩, rfl⟩
    obtain ⟨a1, a2, a3⟩ := x; obtain ⟨b1, b2, b3⟩ := y; simp_all
  refine .inl ⟨_, _, rfl, c_laws_eqInt64S x.mem y.mem (by omega), rfl, ?_⟩
  refine bsplit_intro (fun h2 => ?_) (fun h2 => ?_)
  all_goals refine ⟨⟨congrArg Value.bool ?_, trivial⟩, rfl⟩
  all_goals (obtain ⟨a1, a2, a3⟩ := x; obtain ⟨b1, b2, b3⟩ := y; simp_all)
def soloFault (x : SoloM) : Int := if hFault x.hart = 0 then (if pagesFault x.pages 8 = 0 then (bif (memFault x.mem != 0) || ((x.mem.length : Int) != 64) then 1 else 0) else pagesFault x.pages 8) else hFault x.hart
theorem c_spec_SoloFault (x : SoloM) (hs : x.small) (hp : x.pages.length ≤ 1048576) (hm : x.mem.length ≤ 1048576) : FnOK Try.prog 14 [soloLV x] (ri (soloFault x)) := by
  generalize hr : soloFault x = r
  unfold soloFault at hr
  refine fn_of lv14 Try.func14 rfl rfl (by kernel_rfl) rfl ?_
  refine .inl ⟨_, _, rfl, (c_spec_l8Fault x.hart hs.hart).weak ⟨LVLe.pre (hartD x.hart) [Go.Proofs.Ytfcekiehcchebaa.L.pages x.pages, ints x.mem], trivial⟩, rfl, ?_⟩
  refine bsplit_intro (fun h => ?_) (fun h => ?_)
  · rw [if_neg (by simpa using h)] at hr
    exact ⟨⟨congrArg (Value.int .i64) hr, trivial⟩, rfl⟩
  rw [if_pos (by simpa using h)] at hr
  refine .inl ⟨_, _, rfl, c_spec_PagesFault x.pages 8 hp, rfl, ?_⟩
  refine bsplit_intro (fun h3 => ?_) (fun h3 => ?_)
  · rw [if_neg (by simpa using h3)] at hr
    exact ⟨⟨congrArg (Value.int .i64) hr, trivial⟩, rfl⟩
  rw [if_pos (by simpa using h3)] at hr
  refine .inl ⟨_, _, rfl, c_spec_MemoryFault x.mem hm, rfl, ?_⟩
  refine bsplit_intro (fun h1 => ?_) (fun h1 => ?_)
  · repeat' (first | refine bsplit_true ?_ | refine bsplit_false ?_)
    rw [h1] at hr
    exact ⟨⟨congrArg (Value.int .i64) hr, trivial⟩, rfl⟩
  repeat' (first | refine bsplit_true ?_ | refine bsplit_false ?_)
  rw [h1, Bool.false_or] at hr
  refine bsplit_intro (fun h2 => ?_) (fun h2 => ?_)
  · rw [h2] at hr
    exact ⟨⟨congrArg (Value.int .i64) hr, trivial⟩, rfl⟩
  · rw [h2] at hr
    exact ⟨⟨congrArg (Value.int .i64) hr, trivial⟩, rfl⟩
theorem c_impl_SoloFault (x : SoloM) (hs : x.small) (hp : x.pages.length ≤ 1048576) (hm : x.mem.length ≤ 1048576) : FnOK Try.prog 16 [soloLV x] (ri (soloFault x)) := by
  generalize hr : soloFault x = r
  unfold soloFault at hr
  have e2 : firstNZ [hFault x.hart, pagesFault x.pages 8] = if hFault x.hart = 0 then pagesFault x.pages 8 else hFault x.hart := by
    simp only [firstNZ]
    split
    · split
      · rename_i h; exact h.symm
      · rfl
    · rfl
  refine fn_of lv16 Try.func16 rfl rfl (by kernel_rfl) rfl ?_
  refine .inl ⟨_, _, rfl, c_impl_HartFault x.hart hs.hart, rfl, ?_⟩
  refine .inl ⟨_, _, rfl, c_impl_PagesFault x.pages 8 hp, rfl, ?_⟩
  refine .inl ⟨_, _, rfl, (c_impl_firstOf [hFault x.hart, pagesFault x.pages 8] (by simp)).weak ⟨LVLe.d (DLe.l rfl (fun i hi => litD_eq [hFault x.hart, pagesFault x.pages 8] i hi)), trivial⟩, rfl, ?_⟩
  refine chk_intro (by kernel_rfl) ?_
  refine bsplit_intro (fun h => ?_) (fun h => ?_)
  · have h : ¬ firstNZ [hFault x.hart, pagesFault x.pages 8] = 0 := by simpa only [bne_iff_ne, ne_eq] using h
    refine ⟨⟨congrArg (Value.int .i64) ?_, trivial⟩, rfl⟩
    show firstNZ [hFault x.hart, pagesFault x.pages 8] = r
    rw [e2] at h ⊢
    rw [← hr]
    split
    · rename_i h0
      rw [if_pos h0] at h
      rw [if_neg h]
    · rfl
  have h : firstNZ [hFault x.hart, pagesFault x.pages 8] = 0 := by simpa only [bne_eq_false_iff_eq] using h
  rw [e2] at h
  have h0 : hFault x.hart = 0 := by
    by_cases h0 : hFault x.hart = 0
    · exact h0
    · rw [if_neg h0] at h; exact h
  rw [if_pos h0] at h
  rw [if_pos h0, if_pos h] at hr
  refine .inl ⟨_, _, rfl, c_impl_MemoryFault x.mem hm, rfl, ?_⟩
  refine bsplit_intro (fun h1 => ?_) (fun h1 => ?_)
  · repeat' (first | refine bsplit_true ?_ | refine bsplit_false ?_)
    rw [h1] at hr
    exact ⟨⟨congrArg (Value.int .i64) hr, trivial⟩, rfl⟩
  repeat' (first | refine bsplit_true ?_ | refine bsplit_false ?_)
  rw [h1, Bool.false_or] at hr
  refine bsplit_intro (fun h2 => ?_) (fun h2 => ?_)
  · rw [h2] at hr
    exact ⟨⟨congrArg (Value.int .i64) hr, trivial⟩, rfl⟩
  · rw [h2] at hr
    exact ⟨⟨congrArg (Value.int .i64) hr, trivial⟩, rfl⟩
theorem hSz_le (m : HartM) (h : ¬ hSz m 1048576 < 0) : 0 ≤ hSz m 1048576 ∧ hSz m 1048576 ≤ 1048576 := by
  refine ⟨by omega, ?_⟩
  unfold hSz
  simp only
  split <;> omega
theorem szSoloE (x : SoloM) (hs : x.small) : ∃ v : Int, (¬ v < 0 → x.hart.few ∧ x.pages.length ≤ 1048576 ∧ x.mem.length ≤ 1048576) ∧ FnOK Try.prog 13 [soloLV x, di 1048576] (ri v) := by
  have hp := hs.pages
  have hm := hs.mem
  by_cases h1 : hSz x.hart 1048576 < 0
  · refine ⟨-1, by omega, fn_of lv13 Try.func13 rfl rfl (by kernel_rfl) rfl ?_⟩
    refine .inl ⟨_, _, rfl, c_laws_szHart x.hart hs.hart _ (by decide) (by decide), rfl, ?_⟩
    refine bsplit_of_true (decide_eq_true h1) ?_
    exact ⟨⟨rfl, trivial⟩, rfl⟩
  obtain ⟨q1, q2⟩ := hSz_le x.hart h1
  have hf := few_of_sz (decide_eq_false h1)
  have cp := c_laws_szPageS x.pages (hSz x.hart 1048576) (by omega) (by omega)
  by_cases h2 : hSz x.hart 1048576 - x.pages.length < 0
  · rw [if_pos h2] at cp
    refine ⟨-1, by omega, fn_of lv13 Try.func13 rfl rfl (by kernel_rfl) rfl ?_⟩
    refine .inl ⟨_, _, rfl, c_laws_szHart x.hart hs.hart _ (by decide) (by decide), rfl, ?_⟩
    refine bsplit_of_false (decide_eq_false h1) ?_
    refine .inl ⟨_, _, rfl, cp, rfl, ?_⟩
    repeat' (first | refine bsplit_true ?_ | refine bsplit_false ?_)
    exact ⟨⟨rfl, trivial⟩, rfl⟩
  rw [if_neg h2] at cp
  have cm := c_laws_szInt64S x.mem (hSz x.hart 1048576 - x.pages.length) (by omega) (by omega)
  by_cases h3 : hSz x.hart 1048576 - x.pages.length - x.mem.length < 0
  · rw [if_pos h3] at cm
    refine ⟨-1, by omega, fn_of lv13 Try.func13 rfl rfl (by kernel_rfl) rfl ?_⟩
    refine .inl ⟨_, _, rfl, c_laws_szHart x.hart hs.hart _ (by decide) (by decide), rfl, ?_⟩
    refine bsplit_of_false (decide_eq_false h1) ?_
    refine .inl ⟨_, _, rfl, cp, rfl, ?_⟩
    refine bsplit_of_false (decide_eq_false h2) ?_
    refine .inl ⟨_, _, rfl, cm, rfl, ?_⟩
    repeat' (first | refine bsplit_true ?_ | refine bsplit_false ?_)
    exact ⟨⟨rfl, trivial⟩, rfl⟩
  rw [if_neg h3] at cm
  refine ⟨hSz x.hart 1048576 - x.pages.length - x.mem.length, fun _ => ⟨hf, by omega, by omega⟩, fn_of lv13 Try.func13 rfl rfl (by kernel_rfl) rfl ?_⟩
  refine .inl ⟨_, _, rfl, c_laws_szHart x.hart hs.hart _ (by decide) (by decide), rfl, ?_⟩
  refine bsplit_of_false (decide_eq_false h1) ?_
  refine .inl ⟨_, _, rfl, cp, rfl, ?_⟩
  refine bsplit_of_false (decide_eq_false h2) ?_
  refine .inl ⟨_, _, rfl, cm, rfl, ?_⟩
  refine bsplit_of_false (decide_eq_false h3) ?_
  exact ⟨⟨rfl, trivial⟩, rfl⟩
end Go.Proofs.Ytfcekiehcchebaa.L

/- The law function over what is wrong with a lonely machine answers true; how one is read. -/
set_option linter.unusedVariables false
set_option linter.unusedSimpArgs false
set_option maxRecDepth 100000
namespace Go.Proofs.Ytfcekiehcchebaa.L
open Go.RowKit Go.ChangeShapes Go.WideShapes Go.ChangeAt
theorem reads_page : ReadsT Try.prog 131 2 PageM pageD (fun p => ok64 p.to ∧ ok64 p.kinds) :=
  (ReadsT.struct (ok := _) Try.underlying131 (by kernel_rfl) (ReadsL.cons reads_int64 (.cons reads_int64 (.nil 2)))).map (fun m => ⟨m.1, m.2.1⟩) (fun m h => ⟨⟨h.1, h.2.1⟩, rfl⟩)
theorem reads_pages : ReadsT Try.prog 25 1 (List PageM) (fun l => [pages l]) (fun l => l.length * 16 ≤ reachBytes ∧ ∀ x ∈ l, ok64 x.to ∧ ok64 x.kinds) := ReadsT.slice reads_page Try.underlying25 (by kernel_rfl) (by decide) ⟨0, 0⟩ (by kernel_rfl)
structure SoloM.ok (x : SoloM) : Prop where
  hart : x.hart.ok
  pages : x.pages.length * 16 ≤ reachBytes ∧ ∀ p ∈ x.pages, ok64 p.to ∧ ok64 p.kinds
  mem : okInts x.mem
theorem SoloM.ok.small {x : SoloM} (h : x.ok) : x.small := by
  have e := reach_eq
  have a := h.pages.1
  have b := h.mem.1
  exact ⟨h.hart.small, by omega, by omega⟩
theorem reads_Solo : ReadsT Try.prog 27 11 SoloM soloD SoloM.ok :=
  (ReadsT.struct (ok := _) Try.underlying27 (by kernel_rfl) (ReadsL.cons reads_Hart (.cons reads_pages (.cons reads_ints (.nil 11))))).map (fun m => ⟨m.1, m.2.1, m.2.2.1⟩) (fun m h => ⟨⟨h.1, h.2.1, h.2.2.1⟩, rfl⟩)
set_option maxHeartbeats 1600000 in
theorem c_laws_FnExactSoloFault (x : SoloM) (ho : x.ok) : FnOK Try.prog 3 [soloLV x] (rb true) := by
  have hs := ho.small
  obtain ⟨v, hv, cv⟩ := szSoloE x hs
  by_cases hneg : v < 0
  · refine fn_of lv3 Try.func3 rfl rfl (by kernel_rfl) rfl ?_
    refine .inl ⟨_, _, rfl, cv, rfl, ?_⟩
    refine bsplit_of_true (decide_eq_true hneg) ?_
    exact ⟨⟨rfl, trivial⟩, rfl⟩
  obtain ⟨hf, hp, hm⟩ := hv hneg
  have ct := c_laws_toSolo x hs
  have cs := c_spec_SoloFault x hs hp hm
  have ci := c_impl_SoloFault x hs hp hm
  have ce := c_laws_eqSolo x x hs
  refine fn_of lv3 Try.func3 rfl rfl (by kernel_rfl) rfl ?_
  refine .inl ⟨_, _, rfl, cv, rfl, ?_⟩
  refine bsplit_of_false (decide_eq_false hneg) ?_
  refine .inl ⟨_, _, rfl, ct, rfl, ?_⟩
  refine .inl ⟨_, _, rfl, cs, rfl, ?_⟩
  refine .inl ⟨_, _, rfl, ct, rfl, ?_⟩
  refine .inl ⟨_, _, rfl, ci, rfl, ?_⟩
  refine bsplit_of_false (by simp) ?_
  refine .inl ⟨_, _, rfl, ct, rfl, ?_⟩
  refine .inl ⟨_, _, rfl, ce, rfl, ?_⟩
  repeat' (first | refine bsplit_true ?_ | refine bsplit_false ?_ | refine chk_intro (by kernel_rfl) ?_ | refine bsplit_of_false (by simp; done) ?_)
  exact ⟨⟨rfl, trivial⟩, rfl⟩
end Go.Proofs.Ytfcekiehcchebaa.L

/- What the functions compute that read and write a machine's device page: contracts. -/
set_option linter.unusedVariables false
set_option linter.unusedSimpArgs false
set_option maxRecDepth 100000
namespace Go.Proofs.Ytfcekiehcchebaa.L
open Go.RowKit
theorem drop_ints (l : List Int) (k i : Nat) : intsF l (k + i) = intsF (l.drop k) i := by
  show [D.v (.int .i64 (l.getD (k + i) 0))] = [D.v (.int .i64 ((l.drop k).getD i 0))]
  simp [List.getD, List.getElem?_drop]
def readV (m : HartM) (k : Int) : Int := if k = 1 then m.inp.getD 0 0 else if k = 2 then m.done else if k = 3 then m.csr.getD 9 0 else if k = 4 then pend m else if k = 6 then m.inp.length else 0
def readM (m : HartM) (k : Int) : HartM := if k = 1 then { m with inp := m.inp.drop 1 } else m
abbrev hMemI (m : HartM) : List (Nat × Ent) := [(0, .box 30 (hartK m 1 2 5 4)), (1, rowE m.regs), (2, rowE m.csr), (5, rowE m.inp), (4, rowE m.out)]
abbrev hMemD (m : HartM) : List (Nat × Ent) := [(0, .box 30 [.row 1, di m.pc, .row 2, dv (.bool m.halted), dv (.bool m.waiting), dv (.bool m.rung), di m.done, .d (ints m.inp), .row 4]), (1, rowE m.regs), (2, rowE m.csr), (4, rowE m.out)]
theorem readM_ne {m : HartM} {k : Int} (h : k ≠ 1) : readM m k = m := if_neg h
theorem c_impl_Hart_readDevice (m : HartM) (k : Int) (hc : m.csr.length = 11) (hi : m.inp.length ≤ 40) : MutOK Try.prog 82 [.ptr 0 0, di k] 5 (hMem m) (di (readV m k)) 6 (hMemI (readM m k)) := by
  by_cases hA : k = 1 ∧ 0 < m.inp.length
  · obtain ⟨rfl, h2⟩ := hA
    refine mut_fn_of lv82 Try.func82 rfl rfl (by kernel_rfl) rfl [(5, 20677)] ?_
    repeat' (first | refine bsplit_true ?_ | refine bsplit_false ?_)
    refine bsplit_of_true (by simp; omega) ?_
    refine ask_intro ⟨by omega, by show (0 : Int) < m.inp.length; omega⟩ ?_
    refine ask_intro (show 0 < m.inp.length by omega) ?_
    refine ask_intro ⟨by omega, by show (1 : Int) ≤ m.inp.length; omega, by show (m.inp.length : Int) ≤ m.inp.length; omega, .inr (fun i hi => rfl)⟩ ?_
    refine .inl ⟨_, _, rfl, (c_slices_Clone (m.inp.drop 1) (by simp; omega)).weak ⟨LVLe.d (DLe.l (show ((m.inp.length : Int) - 1).toNat = (m.inp.drop 1).length by simp) (fun i hi => drop_ints m.inp 1 i)), trivial⟩, rfl, ?_⟩
    exact chk_intro (by kernel_rfl) ⟨tellV_v rfl rfl, tellHp_box rfl rfl ⟨rfl, rfl, rfl, rfl, rfl, rfl, rfl, rfl, rfl, trivial⟩ (tellHp_row rfl rfl rfl (fun j hj => rfl) (tellHp_row rfl rfl rfl (fun j hj => rfl) (tellHp_row rfl rfl rfl (fun j hj => rfl) (tellHp_row rfl rfl rfl (fun j hj => rfl) tellHp_nil))))⟩
  have e : readM m k = m := by
    unfold readM
    split
    · rename_i h
      have : m.inp = [] := by
        cases hm : m.inp with
        | nil => rfl
        | cons a l => exact absurd ⟨h, by rw [hm]; simp⟩ hA
      obtain ⟨a, b, c, d, e, f, g, inp, o⟩ := m
      simp only at this
      subst this
      rfl
    · rfl
  rw [e]
  generalize hv : readV m k = v
  unfold readV at hv
  refine mut_fn_of lv82 Try.func82 rfl rfl (by kernel_rfl) rfl [(5, 3)] ?_
  refine bsplit_intro (fun h => ?_) (fun h => ?_)
  · have h : k = 1 := by simpa using h
    have h2 : m.inp = [] := by
      cases hm : m.inp with
      | nil => rfl
      | cons a l => exact absurd ⟨h, by rw [hm]; simp⟩ hA
    refine bsplit_of_false (by simp [h2]) ?_
    rw [if_pos h, h2] at hv
    exact chk_intro (by kernel_rfl) ⟨tellV_v rfl (congrArg (Value.int .i64) hv), tellHp_box rfl rfl ⟨rfl, rfl, rfl, rfl, rfl, rfl, rfl, rfl, rfl, trivial⟩ (tellHp_row rfl rfl rfl (fun j hj => rfl) (tellHp_row rfl rfl rfl (fun j hj => rfl) (tellHp_row rfl rfl rfl (fun j hj => rfl) (tellHp_row rfl rfl rfl (fun j hj => rfl) tellHp_nil))))⟩
  rw [if_neg (by simpa using h)] at hv
  refine bsplit_intro (fun h => ?_) (fun h => ?_)
  · rw [if_pos (by simpa using h)] at hv
    exact chk_intro (by kernel_rfl) ⟨tellV_v rfl (congrArg (Value.int .i64) hv), tellHp_box rfl rfl ⟨rfl, rfl, rfl, rfl, rfl, rfl, rfl, rfl, rfl, trivial⟩ (tellHp_row rfl rfl rfl (fun j hj => rfl) (tellHp_row rfl rfl rfl (fun j hj => rfl) (tellHp_row rfl rfl rfl (fun j hj => rfl) (tellHp_row rfl rfl rfl (fun j hj => rfl) tellHp_nil))))⟩
  rw [if_neg (by simpa using h)] at hv
  refine bsplit_intro (fun h => ?_) (fun h => ?_)
  · rw [if_pos (by simpa using h)] at hv
    refine ask_intro ⟨by omega, by show (9 : Int) < m.csr.length; omega⟩ ?_
    refine ask_intro (show 9 < m.csr.length by omega) ?_
    exact chk_intro (by kernel_rfl) ⟨tellV_v rfl (congrArg (Value.int .i64) hv), tellHp_box rfl rfl ⟨rfl, rfl, rfl, rfl, rfl, rfl, rfl, rfl, rfl, trivial⟩ (tellHp_row rfl rfl rfl (fun j hj => rfl) (tellHp_row rfl rfl rfl (fun j hj => rfl) (tellHp_row rfl rfl rfl (fun j hj => rfl) (tellHp_row rfl rfl rfl (fun j hj => rfl) tellHp_nil))))⟩
  rw [if_neg (by simpa using h)] at hv
  refine bsplit_intro (fun h => ?_) (fun h => ?_)
  · rw [if_pos (by simpa using h)] at hv
    refine .inl ⟨_, _, rfl, c_impl_Hart_pending m hc, rfl, ?_⟩
    exact chk_intro (by kernel_rfl) ⟨tellV_v rfl (congrArg (Value.int .i64) hv), tellHp_box rfl rfl ⟨rfl, rfl, rfl, rfl, rfl, rfl, rfl, rfl, rfl, trivial⟩ (tellHp_row rfl rfl rfl (fun j hj => rfl) (tellHp_row rfl rfl rfl (fun j hj => rfl) (tellHp_row rfl rfl rfl (fun j hj => rfl) (tellHp_row rfl rfl rfl (fun j hj => rfl) tellHp_nil))))⟩
  rw [if_neg (by simpa using h)] at hv
  refine bsplit_intro (fun h => ?_) (fun h => ?_)
  · rw [if_pos (by simpa using h)] at hv
    exact chk_intro (by kernel_rfl) ⟨tellV_v rfl (congrArg (Value.int .i64) hv), tellHp_box rfl rfl ⟨rfl, rfl, rfl, rfl, rfl, rfl, rfl, rfl, rfl, trivial⟩ (tellHp_row rfl rfl rfl (fun j hj => rfl) (tellHp_row rfl rfl rfl (fun j hj => rfl) (tellHp_row rfl rfl rfl (fun j hj => rfl) (tellHp_row rfl rfl rfl (fun j hj => rfl) tellHp_nil))))⟩
  rw [if_neg (by simpa using h)] at hv
  exact chk_intro (by kernel_rfl) ⟨tellV_v rfl (congrArg (Value.int .i64) hv), tellHp_box rfl rfl ⟨rfl, rfl, rfl, rfl, rfl, rfl, rfl, rfl, rfl, trivial⟩ (tellHp_row rfl rfl rfl (fun j hj => rfl) (tellHp_row rfl rfl rfl (fun j hj => rfl) (tellHp_row rfl rfl rfl (fun j hj => rfl) (tellHp_row rfl rfl rfl (fun j hj => rfl) tellHp_nil))))⟩
theorem c_spec_l9Read (m : HartM) (k : Int) (hc : m.csr.length = 11) (hi : m.inp.length ≤ 40) : MutOK Try.prog 79 [.ptr 0 0, di k] 5 (hMem m) (di (readV m k)) 5 (hMemD (readM m k)) := by
  generalize hv : readV m k = v
  unfold readV at hv
  by_cases hk1 : k = 1
  · rw [if_pos hk1] at hv
    have e : readM m k = { m with inp := m.inp.drop 1 } := if_pos hk1
    rw [e]
    refine mut_fn_of lv79 Try.func79 rfl rfl (by kernel_rfl) rfl [] ?_
    refine bsplit_of_true (by simpa using hk1) ?_
    by_cases h2 : m.inp.length = 0
    · have h3 : m.inp = [] := List.length_eq_zero_iff.1 h2
      rw [h3] at hv
      refine bsplit_of_true (by simp; exact h3) ?_
      exact chk_intro (by kernel_rfl) ⟨tellV_v rfl (congrArg (Value.int .i64) hv), tellHp_box rfl rfl ⟨rfl, rfl, rfl, rfl, rfl, rfl, rfl, ⟨rfl, DLe.l (show m.inp.length = (m.inp.drop 1).length by simp [h3]) (fun i hi => absurd hi (by omega))⟩, rfl, trivial⟩ (tellHp_row rfl rfl rfl (fun j hj => rfl) (tellHp_row rfl rfl rfl (fun j hj => rfl) (tellHp_row rfl rfl rfl (fun j hj => rfl) tellHp_nil)))⟩
    · refine bsplit_of_false (by simp; intro h3; simp [h3] at h2) ?_
      refine ask_intro ⟨by omega, by show (0 : Int) < m.inp.length; omega⟩ ?_
      refine ask_intro (show 0 < m.inp.length by omega) ?_
      refine ask_intro ⟨by omega, by show (1 : Int) ≤ m.inp.length; omega, by show (m.inp.length : Int) ≤ m.inp.length; omega, .inr (fun i hi => rfl)⟩ ?_
      exact chk_intro (by kernel_rfl) ⟨tellV_v rfl (congrArg (Value.int .i64) hv), tellHp_box rfl rfl ⟨rfl, rfl, rfl, rfl, rfl, rfl, rfl, DLe.l (show ((m.inp.length : Int) - 1).toNat = (m.inp.drop 1).length by simp) (fun i hi => drop_ints m.inp 1 i), rfl, trivial⟩ (tellHp_row rfl rfl rfl (fun j hj => rfl) (tellHp_row rfl rfl rfl (fun j hj => rfl) (tellHp_row rfl rfl rfl (fun j hj => rfl) tellHp_nil)))⟩
  rw [if_neg hk1] at hv
  rw [readM_ne hk1]
  refine mut_fn_of lv79 Try.func79 rfl rfl (by kernel_rfl) rfl [] ?_
  refine bsplit_of_false (by simpa using hk1) ?_
  refine bsplit_intro (fun h => ?_) (fun h => ?_)
  · rw [if_pos (by simpa using h)] at hv
    exact chk_intro (by kernel_rfl) ⟨tellV_v rfl (congrArg (Value.int .i64) hv), tellHp_box rfl rfl ⟨rfl, rfl, rfl, rfl, rfl, rfl, rfl, ⟨rfl, DLe.refl _⟩, rfl, trivial⟩ (tellHp_row rfl rfl rfl (fun j hj => rfl) (tellHp_row rfl rfl rfl (fun j hj => rfl) (tellHp_row rfl rfl rfl (fun j hj => rfl) tellHp_nil)))⟩
  rw [if_neg (by simpa using h)] at hv
  refine bsplit_intro (fun h => ?_) (fun h => ?_)
  · rw [if_pos (by simpa using h)] at hv
    refine ask_intro ⟨by omega, by show (9 : Int) < m.csr.length; omega⟩ ?_
    refine ask_intro (show 9 < m.csr.length by omega) ?_
    exact chk_intro (by kernel_rfl) ⟨tellV_v rfl (congrArg (Value.int .i64) hv), tellHp_box rfl rfl ⟨rfl, rfl, rfl, rfl, rfl, rfl, rfl, ⟨rfl, DLe.refl _⟩, rfl, trivial⟩ (tellHp_row rfl rfl rfl (fun j hj => rfl) (tellHp_row rfl rfl rfl (fun j hj => rfl) (tellHp_row rfl rfl rfl (fun j hj => rfl) tellHp_nil)))⟩
  rw [if_neg (by simpa using h)] at hv
  refine bsplit_intro (fun h => ?_) (fun h => ?_)
  · rw [if_pos (by simpa using h)] at hv
    refine .inl ⟨_, _, rfl, c_spec_l8Pending m hc, rfl, ?_⟩
    exact chk_intro (by kernel_rfl) ⟨tellV_v rfl (congrArg (Value.int .i64) hv), tellHp_box rfl rfl ⟨rfl, rfl, rfl, rfl, rfl, rfl, rfl, ⟨rfl, DLe.refl _⟩, rfl, trivial⟩ (tellHp_row rfl rfl rfl (fun j hj => rfl) (tellHp_row rfl rfl rfl (fun j hj => rfl) (tellHp_row rfl rfl rfl (fun j hj => rfl) tellHp_nil)))⟩
  rw [if_neg (by simpa using h)] at hv
  refine bsplit_intro (fun h => ?_) (fun h => ?_)
  · rw [if_pos (by simpa using h)] at hv
    exact chk_intro (by kernel_rfl) ⟨tellV_v rfl (congrArg (Value.int .i64) hv), tellHp_box rfl rfl ⟨rfl, rfl, rfl, rfl, rfl, rfl, rfl, ⟨rfl, DLe.refl _⟩, rfl, trivial⟩ (tellHp_row rfl rfl rfl (fun j hj => rfl) (tellHp_row rfl rfl rfl (fun j hj => rfl) (tellHp_row rfl rfl rfl (fun j hj => rfl) tellHp_nil)))⟩
  rw [if_neg (by simpa using h)] at hv
  exact chk_intro (by kernel_rfl) ⟨tellV_v rfl (congrArg (Value.int .i64) hv), tellHp_box rfl rfl ⟨rfl, rfl, rfl, rfl, rfl, rfl, rfl, ⟨rfl, DLe.refl _⟩, rfl, trivial⟩ (tellHp_row rfl rfl rfl (fun j hj => rfl) (tellHp_row rfl rfl rfl (fun j hj => rfl) (tellHp_row rfl rfl rfl (fun j hj => rfl) tellHp_nil)))⟩
def writeV (k w : Int) : Int := if k = 5 then wrapW w else -1
def writeM (m : HartM) (k w : Int) : HartM := if k = 0 then (if m.out.length < 40 then { m with out := m.out ++ [wrapW w] } else m) else if k = 3 then setM m 9 w else if k = 4 then setM m 6 w else m
theorem wrapW_wrapW (w : Int) : wrapW (wrapW w) = wrapW w := by unfold wrapW; omega
theorem setM_wrapW (m : HartM) (k w : Int) : setM m k (wrapW w) = setM m k w := by unfold setM; rw [wrapW_wrapW]
abbrev hMemO (m : HartM) : List (Nat × Ent) := [(0, .box 30 (hartK m 1 2 3 5)), (1, rowE m.regs), (2, rowE m.csr), (3, rowE m.inp), (5, rowE m.out)]
theorem app_ints (l : List Int) (w : Int) (i : Nat) : upto l.length (intsF l) (fun i => ([[D.v (.int .i64 w)]] : List (List D)).getD i []) i = intsF (l ++ [w]) i ∨ l.length + 1 ≤ i := by
  rcases Nat.lt_or_ge i (l.length + 1) with h | h
  · refine .inl ?_
    unfold upto
    show _ = [D.v (.int .i64 ((l ++ [w]).getD i 0))]
    split
    · rename_i h; show [D.v (.int .i64 (l.getD i 0))] = _; simp [List.getD, List.getElem?_append, h]
    · have : i = l.length := by omega
      subst this
      simp [List.getD]
  · exact .inr h
theorem app_ints' (l : List Int) (w : Int) (i : Nat) (h : i < l.length + 1) : upto l.length (intsF l) (fun i => ([[D.v (.int .i64 w)]] : List (List D)).getD i []) i = intsF (l ++ [w]) i := (app_ints l w i).resolve_right (by omega)
theorem one_len (v : Int) (i : Nat) (hi : i < 1) : (([[D.v (.int .i64 v)]] : List (List D)).getD i []).length = 1 := by
  obtain rfl : i = 0 := by omega
  rfl
theorem c_spec_l9Write (m : HartM) (k w : Int) (hc : m.csr.length = 11) (ho : m.out.length ≤ 40) : MutOK Try.prog 84 [.ptr 0 0, di k, di w] 5 (hMem m) (di (writeV k w)) 6 (hMemO (writeM m k w)) := by
  generalize hv : writeV k w = v
  unfold writeV at hv
  by_cases hA : k = 0 ∧ m.out.length < 40
  · obtain ⟨rfl, h2⟩ := hA
    have e : writeM m 0 w = { m with out := m.out ++ [wrapW w] } := by unfold writeM; rw [if_pos rfl, if_pos h2]
    rw [e]
    rw [if_neg (by decide)] at hv
    refine mut_fn_of lv84 Try.func84 rfl rfl (by kernel_rfl) rfl [(5, 20709)] ?_
    refine .inl ⟨_, _, rfl, c_spec_WrapWord w, rfl, ?_⟩
    repeat' (first | refine bsplit_true ?_ | refine bsplit_false ?_)
    refine bsplit_of_true (by simp; omega) ?_
    first
      | refine .inl ⟨_, _, rfl, c_slices_Clone m.out (by omega), rfl, ?_⟩
      | skip
    refine ask_intro ⟨by show (m.out.length + 1) * 8 ≤ 140737488355328; omega, by show m.out.length + 1 ≤ 9223372036854775807; omega, one_len _⟩ ?_
    exact chk_intro (by kernel_rfl) ⟨tellV_v rfl (congrArg (Value.int .i64) hv), tellHp_box rfl rfl ⟨rfl, rfl, rfl, rfl, rfl, rfl, rfl, rfl, rfl, trivial⟩ (tellHp_row rfl rfl rfl (fun j hj => rfl) (tellHp_row rfl rfl rfl (fun j hj => rfl) (tellHp_row rfl rfl rfl (fun j hj => rfl) (tellHp_row rfl rfl (show m.out.length + 1 = (m.out ++ [wrapW w]).length by simp) (fun j hj => app_ints' m.out (wrapW w) j hj) tellHp_nil))))⟩
  by_cases h0 : k = 0
  · have h2 : ¬ m.out.length < 40 := fun h => hA ⟨h0, h⟩
    have e : writeM m k w = m := by unfold writeM; rw [if_pos h0, if_neg h2]
    rw [e]
    rw [if_neg (by omega)] at hv
    refine mut_fn_of lv84 Try.func84 rfl rfl (by kernel_rfl) rfl [(5, 4)] ?_
    refine .inl ⟨_, _, rfl, c_spec_WrapWord w, rfl, ?_⟩
    refine bsplit_of_true (by simpa using h0) ?_
    refine bsplit_of_false (by simp; omega) ?_
    exact chk_intro (by kernel_rfl) ⟨tellV_v rfl (congrArg (Value.int .i64) hv), tellHp_box rfl rfl ⟨rfl, rfl, rfl, rfl, rfl, rfl, rfl, rfl, rfl, trivial⟩ (tellHp_row rfl rfl rfl (fun j hj => rfl) (tellHp_row rfl rfl rfl (fun j hj => rfl) (tellHp_row rfl rfl rfl (fun j hj => rfl) (tellHp_row rfl rfl rfl (fun j hj => rfl) tellHp_nil))))⟩
  have e9 : setM m 9 w = setCsrL m 9 (wrapW w) := by simp [setM]
  have c9 := c_spec_l8Set m 9 (wrapW w) hc (inR_iff.2 ⟨by omega, by omega⟩)
  have c6 := c_spec_l8Set m 6 (wrapW w) hc (inR_iff.2 ⟨by omega, by omega⟩)
  rw [setM_wrapW] at c9 c6
  generalize hm : writeM m k w = m2
  unfold writeM at hm
  rw [if_neg h0] at hm
  refine mut_fn_of lv84 Try.func84 rfl rfl (by kernel_rfl) rfl [(5, 4)] ?_
  refine .inl ⟨_, _, rfl, c_spec_WrapWord w, rfl, ?_⟩
  refine bsplit_of_false (by simpa using h0) ?_
  refine bsplit_intro (fun h => ?_) (fun h => ?_)
  · rw [if_pos (by simpa using h)] at hm
    rw [if_neg (by simp at h; omega)] at hv
    first
      | (subst hm
         refine .inr ⟨rfl, use_mut ⟨_, _, _, _, _, _, rfl, rfl, c9, rfl, ?_⟩⟩
         exact chk_intro (by kernel_rfl) ⟨tellV_v rfl (congrArg (Value.int .i64) hv), tellHp_box rfl rfl ⟨rfl, rfl, rfl, rfl, rfl, rfl, rfl, rfl, rfl, trivial⟩ (tellHp_row rfl rfl rfl (fun j hj => rfl) (tellHp_row rfl rfl rfl (fun j hj => rfl) (tellHp_row rfl rfl rfl (fun j hj => rfl) (tellHp_row rfl rfl rfl (fun j hj => rfl) tellHp_nil))))⟩)
      | (rw [e9] at hm
         subst hm
         refine ask_intro ⟨by omega, by show (9 : Int) < m.csr.length; omega⟩ ?_
         refine ask_intro (show 9 < m.csr.length by omega) ?_
         exact chk_intro (by kernel_rfl) ⟨tellV_v rfl (congrArg (Value.int .i64) hv), tellHp_box rfl rfl ⟨rfl, rfl, rfl, rfl, rfl, rfl, rfl, rfl, rfl, trivial⟩ (tellHp_row rfl rfl rfl (fun j hj => rfl) (tellHp_row rfl rfl (show m.csr.length = (m.csr.set 9 (wrapW w)).length by simp) (fun j hj => set_at (l := m.csr) (i := 9) rfl (by omega)) (tellHp_row rfl rfl rfl (fun j hj => rfl) (tellHp_row rfl rfl rfl (fun j hj => rfl) tellHp_nil))))⟩)
  rw [if_neg (by simpa using h)] at hm
  refine bsplit_intro (fun h => ?_) (fun h => ?_)
  · rw [if_pos (by simpa using h)] at hm
    rw [if_neg (by simp at h; omega)] at hv
    subst hm
    refine .inr ⟨rfl, use_mut ⟨_, _, _, _, _, _, rfl, rfl, c6, rfl, ?_⟩⟩
    exact chk_intro (by kernel_rfl) ⟨tellV_v rfl (congrArg (Value.int .i64) hv), tellHp_box rfl rfl ⟨rfl, rfl, rfl, rfl, rfl, rfl, rfl, rfl, rfl, trivial⟩ (tellHp_row rfl rfl rfl (fun j hj => rfl) (tellHp_row rfl rfl rfl (fun j hj => rfl) (tellHp_row rfl rfl rfl (fun j hj => rfl) (tellHp_row rfl rfl rfl (fun j hj => rfl) tellHp_nil))))⟩
  rw [if_neg (by simpa using h)] at hm
  subst hm
  refine bsplit_intro (fun h => ?_) (fun h => ?_)
  · rw [if_pos (by simpa using h)] at hv
    exact chk_intro (by kernel_rfl) ⟨tellV_v rfl (congrArg (Value.int .i64) hv), tellHp_box rfl rfl ⟨rfl, rfl, rfl, rfl, rfl, rfl, rfl, rfl, rfl, trivial⟩ (tellHp_row rfl rfl rfl (fun j hj => rfl) (tellHp_row rfl rfl rfl (fun j hj => rfl) (tellHp_row rfl rfl rfl (fun j hj => rfl) (tellHp_row rfl rfl rfl (fun j hj => rfl) tellHp_nil))))⟩
  rw [if_neg (by simpa using h)] at hv
  exact chk_intro (by kernel_rfl) ⟨tellV_v rfl (congrArg (Value.int .i64) hv), tellHp_box rfl rfl ⟨rfl, rfl, rfl, rfl, rfl, rfl, rfl, rfl, rfl, trivial⟩ (tellHp_row rfl rfl rfl (fun j hj => rfl) (tellHp_row rfl rfl rfl (fun j hj => rfl) (tellHp_row rfl rfl rfl (fun j hj => rfl) (tellHp_row rfl rfl rfl (fun j hj => rfl) tellHp_nil))))⟩
theorem c_impl_Hart_writeDevice (m : HartM) (k w : Int) (hc : m.csr.length = 11) (ho : m.out.length ≤ 40) : MutOK Try.prog 85 [.ptr 0 0, di k, di w] 5 (hMem m) (di (writeV k w)) 6 (hMemO (writeM m k w)) := by
  generalize hv : writeV k w = v
  unfold writeV at hv
  by_cases hA : k = 0 ∧ m.out.length < 40
  · obtain ⟨rfl, h2⟩ := hA
    have e : writeM m 0 w = { m with out := m.out ++ [wrapW w] } := by unfold writeM; rw [if_pos rfl, if_pos h2]
    rw [e]
    rw [if_neg (by decide)] at hv
    refine mut_fn_of lv85 Try.func85 rfl rfl (by kernel_rfl) rfl [(5, 20741)] ?_
    refine .inl ⟨_, _, rfl, c_impl_WrapWord w, rfl, ?_⟩
    repeat' (first | refine bsplit_true ?_ | refine bsplit_false ?_)
    refine bsplit_of_true (by simp; omega) ?_
    first
      | refine .inl ⟨_, _, rfl, c_slices_Clone m.out (by omega), rfl, ?_⟩
      | skip
    refine ask_intro ⟨by show (m.out.length + 1) * 8 ≤ 140737488355328; omega, by show m.out.length + 1 ≤ 9223372036854775807; omega, one_len _⟩ ?_
    exact chk_intro (by kernel_rfl) ⟨tellV_v rfl (congrArg (Value.int .i64) hv), tellHp_box rfl rfl ⟨rfl, rfl, rfl, rfl, rfl, rfl, rfl, rfl, rfl, trivial⟩ (tellHp_row rfl rfl rfl (fun j hj => rfl) (tellHp_row rfl rfl rfl (fun j hj => rfl) (tellHp_row rfl rfl rfl (fun j hj => rfl) (tellHp_row rfl rfl (show m.out.length + 1 = (m.out ++ [wrapW w]).length by simp) (fun j hj => app_ints' m.out (wrapW w) j hj) tellHp_nil))))⟩
  by_cases h0 : k = 0
  · have h2 : ¬ m.out.length < 40 := fun h => hA ⟨h0, h⟩
    have e : writeM m k w = m := by unfold writeM; rw [if_pos h0, if_neg h2]
    rw [e]
    rw [if_neg (by omega)] at hv
    refine mut_fn_of lv85 Try.func85 rfl rfl (by kernel_rfl) rfl [(5, 4)] ?_
    refine .inl ⟨_, _, rfl, c_impl_WrapWord w, rfl, ?_⟩
    refine bsplit_of_true (by simpa using h0) ?_
    refine bsplit_of_false (by simp; omega) ?_
    exact chk_intro (by kernel_rfl) ⟨tellV_v rfl (congrArg (Value.int .i64) hv), tellHp_box rfl rfl ⟨rfl, rfl, rfl, rfl, rfl, rfl, rfl, rfl, rfl, trivial⟩ (tellHp_row rfl rfl rfl (fun j hj => rfl) (tellHp_row rfl rfl rfl (fun j hj => rfl) (tellHp_row rfl rfl rfl (fun j hj => rfl) (tellHp_row rfl rfl rfl (fun j hj => rfl) tellHp_nil))))⟩
  have e9 : setM m 9 w = setCsrL m 9 (wrapW w) := by simp [setM]
  have c9 := c_impl_Hart_set m 9 (wrapW w) hc (inR_iff.2 ⟨by omega, by omega⟩)
  have c6 := c_impl_Hart_set m 6 (wrapW w) hc (inR_iff.2 ⟨by omega, by omega⟩)
  rw [setM_wrapW] at c9 c6
  generalize hm : writeM m k w = m2
  unfold writeM at hm
  rw [if_neg h0] at hm
  refine mut_fn_of lv85 Try.func85 rfl rfl (by kernel_rfl) rfl [(5, 4)] ?_
  refine .inl ⟨_, _, rfl, c_impl_WrapWord w, rfl, ?_⟩
  refine bsplit_of_false (by simpa using h0) ?_
  refine bsplit_intro (fun h => ?_) (fun h => ?_)
  · rw [if_pos (by simpa using h)] at hm
    rw [if_neg (by simp at h; omega)] at hv
    first
      | (subst hm
         refine .inr ⟨rfl, use_mut ⟨_, _, _, _, _, _, rfl, rfl, c9, rfl, ?_⟩⟩
         exact chk_intro (by kernel_rfl) ⟨tellV_v rfl (congrArg (Value.int .i64) hv), tellHp_box rfl rfl ⟨rfl, rfl, rfl, rfl, rfl, rfl, rfl, rfl, rfl, trivial⟩ (tellHp_row rfl rfl rfl (fun j hj => rfl) (tellHp_row rfl rfl rfl (fun j hj => rfl) (tellHp_row rfl rfl rfl (fun j hj => rfl) (tellHp_row rfl rfl rfl (fun j hj => rfl) tellHp_nil))))⟩)
      | (rw [e9] at hm
         subst hm
         refine ask_intro ⟨by omega, by show (9 : Int) < m.csr.length; omega⟩ ?_
         refine ask_intro (show 9 < m.csr.length by omega) ?_
         exact chk_intro (by kernel_rfl) ⟨tellV_v rfl (congrArg (Value.int .i64) hv), tellHp_box rfl rfl ⟨rfl, rfl, rfl, rfl, rfl, rfl, rfl, rfl, rfl, trivial⟩ (tellHp_row rfl rfl rfl (fun j hj => rfl) (tellHp_row rfl rfl (show m.csr.length = (m.csr.set 9 (wrapW w)).length by simp) (fun j hj => set_at (l := m.csr) (i := 9) rfl (by omega)) (tellHp_row rfl rfl rfl (fun j hj => rfl) (tellHp_row rfl rfl rfl (fun j hj => rfl) tellHp_nil))))⟩)
  rw [if_neg (by simpa using h)] at hm
  refine bsplit_intro (fun h => ?_) (fun h => ?_)
  · rw [if_pos (by simpa using h)] at hm
    rw [if_neg (by simp at h; omega)] at hv
    subst hm
    refine .inr ⟨rfl, use_mut ⟨_, _, _, _, _, _, rfl, rfl, c6, rfl, ?_⟩⟩
    exact chk_intro (by kernel_rfl) ⟨tellV_v rfl (congrArg (Value.int .i64) hv), tellHp_box rfl rfl ⟨rfl, rfl, rfl, rfl, rfl, rfl, rfl, rfl, rfl, trivial⟩ (tellHp_row rfl rfl rfl (fun j hj => rfl) (tellHp_row rfl rfl rfl (fun j hj => rfl) (tellHp_row rfl rfl rfl (fun j hj => rfl) (tellHp_row rfl rfl rfl (fun j hj => rfl) tellHp_nil))))⟩
  rw [if_neg (by simpa using h)] at hm
  subst hm
  refine bsplit_intro (fun h => ?_) (fun h => ?_)
  · rw [if_pos (by simpa using h)] at hv
    exact chk_intro (by kernel_rfl) ⟨tellV_v rfl (congrArg (Value.int .i64) hv), tellHp_box rfl rfl ⟨rfl, rfl, rfl, rfl, rfl, rfl, rfl, rfl, rfl, trivial⟩ (tellHp_row rfl rfl rfl (fun j hj => rfl) (tellHp_row rfl rfl rfl (fun j hj => rfl) (tellHp_row rfl rfl rfl (fun j hj => rfl) (tellHp_row rfl rfl rfl (fun j hj => rfl) tellHp_nil))))⟩
  rw [if_neg (by simpa using h)] at hv
  exact chk_intro (by kernel_rfl) ⟨tellV_v rfl (congrArg (Value.int .i64) hv), tellHp_box rfl rfl ⟨rfl, rfl, rfl, rfl, rfl, rfl, rfl, rfl, rfl, trivial⟩ (tellHp_row rfl rfl rfl (fun j hj => rfl) (tellHp_row rfl rfl rfl (fun j hj => rfl) (tellHp_row rfl rfl rfl (fun j hj => rfl) (tellHp_row rfl rfl rfl (fun j hj => rfl) tellHp_nil))))⟩
end Go.Proofs.Ytfcekiehcchebaa.L

/- What the functions compute that tell the words of a page: contracts. -/
set_option linter.unusedVariables false
set_option linter.unusedSimpArgs false
set_option maxRecDepth 100000
namespace Go.Proofs.Ytfcekiehcchebaa.L
open Go.RowKit
def pageW (m : List Int) (p : Int) : List Int := (m.drop (p * 8).toNat).take 8
theorem pageW_len (m : List Int) (p : Int) (hp : 0 ≤ p) (h : (p + 1) * 8 ≤ m.length) : (pageW m p).length = 8 := by
  unfold pageW
  rw [List.length_take, List.length_drop]
  omega
theorem pageW_D (m : List Int) (p : Int) (hp : 0 ≤ p) (h : (p + 1) * 8 ≤ m.length) : DLe (.l (((p + 1) * 8 - p * 8)).toNat (fun i => intsF m ((p * 8).toNat + i))) (ints (pageW m p)) := by
  refine DLe.l (by rw [pageW_len m p hp h]; omega) (fun i hi => ?_)
  show [D.v (.int .i64 (m.getD ((p * 8).toNat + i) 0))] = [D.v (.int .i64 ((pageW m p).getD i 0))]
  unfold pageW
  have hi8 : i < 8 := by omega
  simp [List.getD, List.getElem?_take, hi8, List.getElem?_drop]
theorem c_impl_pageOf (m : List Int) (p : Int) (hp : 0 ≤ p) (hp2 : p ≤ 1048576) (h : (p + 1) * 8 ≤ m.length) : FnOK Try.prog 94 [.d (ints m), di p] (.r (.one (oInts (pageW m p)))) := by
  have w1 : IntKind.i64.wrap (p * 8) = p * 8 := wrap_i64 _ (by omega) (by omega)
  have w2 : IntKind.i64.wrap (IntKind.i64.wrap (p + 1) * 8) = (p + 1) * 8 := by rw [wrap_i64 (p + 1) (by omega) (by omega)]; exact wrap_i64 _ (by omega) (by omega)
  refine fn_of lv94 Try.func94 rfl rfl (by kernel_rfl) rfl ?_
  refine ask_intro ⟨by show 0 ≤ IntKind.i64.wrap (p * 8); omega, by show IntKind.i64.wrap (p * 8) ≤ IntKind.i64.wrap (IntKind.i64.wrap (p + 1) * 8); omega, by show IntKind.i64.wrap (IntKind.i64.wrap (p + 1) * 8) ≤ m.length; omega, .inr (fun i hi => rfl)⟩ ?_
  have hD := pageW_D m p hp h
  rw [← w2, ← w1] at hD
  refine .inl ⟨_, _, rfl, (c_slices_Clone (pageW m p) (by rw [pageW_len m p hp h]; omega)).weak ⟨LVLe.d hD, trivial⟩, rfl, ?_⟩
  exact ⟨⟨⟨rfl, rfl, rfl, fun i hi => ⟨rfl, rfl⟩⟩, trivial⟩, rfl⟩
def wordsL (m : List Int) (ps : List Int) : List Int := ps.flatMap (pageW m)
theorem wordsL_len (m : List Int) : ∀ (ps : List Int), (∀ p ∈ ps, 0 ≤ p ∧ (p + 1) * 8 ≤ m.length) → (wordsL m ps).length = 8 * ps.length
  | [], _ => rfl
  | p :: ps, h => by
    have h1 := h p (by simp)
    have h2 := wordsL_len m ps (fun q hq => h q (by simp [hq]))
    unfold wordsL at h2 ⊢
    rw [List.flatMap_cons, List.length_append, pageW_len m p h1.1 h1.2, h2]
    simp; omega
theorem upto_app (a b : List Int) (g : Nat → List D) (hg : ∀ j, j < b.length → g j = intsF b j) (i : Nat) (h : i < a.length + b.length) : upto a.length (intsF a) g i = intsF (a ++ b) i := by
  rw [← upto_ints]
  unfold upto
  split
  · rfl
  · exact hg _ (by omega)
theorem c_spec_l7Words (m ps : List Int) (hm : m.length ≤ 1048576) (hn : ps.length ≤ 1048576) (h : ∀ p ∈ ps, 0 ≤ p ∧ (p + 1) * 8 ≤ m.length) : FnOK Try.prog 93 [.d (ints m), .d (ints ps)] (.r (.one (oInts (wordsL m ps)))) := by
  refine fn_of lv93 Try.func93 rfl rfl (by kernel_rfl) rfl ?_
  refine ⟨{ i : Nat // i ≤ ps.length }, fun i => ⟨frL [(0, .d (ints m)), (1, .d (ints ps)), (5, .row 96), (6, di i.1)], hpL [(96, rowE (wordsL m (ps.take i.1)))], 97, 0⟩, fun i => ps.length - i.1, ⟨0, by omega⟩,
    le_of [(96, 4096)] rfl rfl rfl rfl (tellHp_row rfl rfl (by simp [wordsL]) (fun j hj => absurd hj (by omega)) tellHp_nil) (tellFr_d rfl (DLe.refl _) (tellFr_d rfl (DLe.refl _) (tellFr_row rfl rfl (tellFr_v rfl rfl trivial)))), ?_⟩
  rintro ⟨i, hi⟩
  refine bsplit_intro (fun hb => ?_) (fun hb => ?_)
  · have hb : i < ps.length := by simp at hb; exact hb
    have hpm : ps.getD i 0 ∈ ps := by simp [List.getD, List.getElem?_eq_getElem hb]
    have et : ps.take (i + 1) = ps.take i ++ [ps.getD i 0] := by rw [List.take_add_one]; simp [List.getD, List.getElem?_eq_getElem hb]
    have hlt := wordsL_len m (ps.take i) (fun q hq => h q (List.mem_of_mem_take hq))
    have ew : wordsL m (ps.take (i + 1)) = wordsL m (ps.take i) ++ pageW m (ps.getD i 0) := by rw [et]; simp [wordsL]
    have hwi : IntKind.i64.wrap ((i : Int) + 1) = ((i + 1 : Nat) : Int) := wrap_i64 (i + 1) (by omega) (by omega)
    obtain ⟨hp, hp2⟩ := h _ hpm
    have hpl := pageW_len m _ hp hp2
    have hlt2 : (wordsL m (ps.take i)).length ≤ 8388608 := by rw [hlt, List.length_take]; omega
    have w1 : IntKind.i64.wrap (ps.getD i 0 * 8) = ps.getD i 0 * 8 := wrap_i64 _ (by omega) (by omega)
    have w2 : IntKind.i64.wrap (IntKind.i64.wrap (ps.getD i 0 + 1) * 8) = (ps.getD i 0 + 1) * 8 := by rw [wrap_i64 (ps.getD i 0 + 1) (by omega) (by omega)]; exact wrap_i64 _ (by omega) (by omega)
    refine ask_intro ⟨by omega, by simp; omega, rfl⟩ ?_
    refine ask_intro ⟨by omega, by simp; omega, rfl⟩ ?_
    refine ask_intro ⟨by show 0 ≤ IntKind.i64.wrap (ps.getD i 0 * 8); omega, by show IntKind.i64.wrap (ps.getD i 0 * 8) ≤ IntKind.i64.wrap (IntKind.i64.wrap (ps.getD i 0 + 1) * 8); omega, by show IntKind.i64.wrap (IntKind.i64.wrap (ps.getD i 0 + 1) * 8) ≤ m.length; omega, .inr (fun i hi => rfl)⟩ ?_
    refine ask_intro ⟨by show ((wordsL m (ps.take i)).length + (IntKind.i64.wrap (IntKind.i64.wrap (ps.getD i 0 + 1) * 8) - IntKind.i64.wrap (ps.getD i 0 * 8)).toNat) * 8 ≤ 140737488355328; omega, by show (wordsL m (ps.take i)).length + (IntKind.i64.wrap (IntKind.i64.wrap (ps.getD i 0 + 1) * 8) - IntKind.i64.wrap (ps.getD i 0 * 8)).toNat ≤ 9223372036854775807; omega, fun j hj => rfl⟩ ?_
    refine chk_intro (by kernel_rfl) ?_
    refine ⟨⟨i + 1, by omega⟩, le_of [(96, 4641)] rfl rfl rfl rfl (tellHp_row rfl rfl ?_ (fun j hj => ?_) tellHp_nil) (tellFr_d rfl (DLe.refl _) (tellFr_d rfl (DLe.refl _) (tellFr_row rfl rfl (tellFr_v rfl (congrArg (Value.int .i64) hwi) trivial)))), by show ps.length - (i + 1) < ps.length - i; omega⟩
    · show (wordsL m (ps.take i)).length + (IntKind.i64.wrap (IntKind.i64.wrap (ps.getD i 0 + 1) * 8) - IntKind.i64.wrap (ps.getD i 0 * 8)).toNat = (wordsL m (ps.take (i + 1))).length
      rw [ew, List.length_append, hpl]; omega
    · have hj : j < (wordsL m (ps.take i)).length + (IntKind.i64.wrap (IntKind.i64.wrap (ps.getD i 0 + 1) * 8) - IntKind.i64.wrap (ps.getD i 0 * 8)).toNat := hj
      show upto (wordsL m (ps.take i)).length (intsF (wordsL m (ps.take i))) (fun q => intsF m ((IntKind.i64.wrap (ps.getD i 0 * 8)).toNat + q)) j = intsF (wordsL m (ps.take (i + 1))) j
      rw [ew]
      refine upto_app _ _ _ (fun q hq => ?_) j (by rw [hpl]; omega)
      rw [w1]
      show [D.v (.int .i64 (m.getD ((ps.getD i 0 * 8).toNat + q) 0))] = [D.v (.int .i64 ((pageW m (ps.getD i 0)).getD q 0))]
      unfold pageW
      have hq8 : q < 8 := by omega
      simp [List.getD, List.getElem?_take, hq8, List.getElem?_drop]
  · simp at hb
    have e : i = ps.length := by omega
    subst e
    refine ⟨⟨⟨rfl, rfl, ?_, fun j hj => ⟨?_, rfl⟩⟩, trivial⟩, rfl⟩
    · show (wordsL m (ps.take ps.length)).length = _
      rw [List.take_length]
    · show intsF (wordsL m (ps.take ps.length)) j = _
      rw [List.take_length]
end Go.Proofs.Ytfcekiehcchebaa.L

/- What the functions compute that walk through pages: contracts. -/
set_option linter.unusedVariables false
set_option linter.unusedSimpArgs false
set_option maxRecDepth 100000
namespace Go.Proofs.Ytfcekiehcchebaa.L
open Go.RowKit
/-! ## the first place in a list for which something holds -/
def idxG {α : Type} (p : α → Bool) (l : List α) (i : Nat) : Int := bif (l.drop i).any p then (((l.drop i).findIdx p + i : Nat) : Int) else -1
theorem getD_at {α : Type} {l : List α} {i : Nat} (d : α) (h : i < l.length) : l.getD i d = l[i] := by simp [List.getD, List.getElem?_eq_getElem h]
theorem drop_anyG {α : Type} (d : α) (l : List α) (p : α → Bool) (i : Nat) (h : i < l.length) : (l.drop i).any p = (p (l.getD i d) || (l.drop (i + 1)).any p) := by
  rw [List.drop_eq_getElem_cons h, List.any_cons, getD_at d h]
theorem idxG_hit {α : Type} (d : α) {l : List α} {p : α → Bool} {i : Nat} (h : i < l.length) (hp : p (l.getD i d) = true) : idxG p l i = i := by
  unfold idxG
  rw [drop_anyG d l p i h, hp, List.drop_eq_getElem_cons h]
  rw [getD_at d h] at hp
  rw [List.findIdx_cons, hp]
  simp
theorem idxG_miss {α : Type} (d : α) {l : List α} {p : α → Bool} {i : Nat} (h : i < l.length) (hp : p (l.getD i d) = false) : idxG p l i = idxG p l (i + 1) := by
  unfold idxG
  rw [drop_anyG d l p i h, hp, Bool.false_or, List.drop_eq_getElem_cons h]
  rw [getD_at d h] at hp
  cases (List.drop (i + 1) l).any p with
  | false => rfl
  | true =>
    simp only [cond_true, List.findIdx_cons, hp, cond_false]
    omega
theorem idxG_end {α : Type} {l : List α} {p : α → Bool} {i : Nat} (h : l.length ≤ i) : idxG p l i = -1 := by
  unfold idxG
  rw [List.drop_eq_nil_of_le h]; rfl
theorem idxG_any {α : Type} (l : List α) (p : α → Bool) : decide (idxG p l 0 ≥ 0) = l.any p := by
  unfold idxG
  rw [List.drop_zero]
  cases l.any p <;> simp
theorem c_slices_IndexFunc_Page1 (g : Nat) (t : Int) (p : PageM → Bool) (hg : ∀ x, FnOK Try.prog g [pageLV x, .dptr [.v (.int .i64 t)]] (rb (p x))) (l : List PageM) (hl : l.length ≤ 9223372036854775807) : FnOK Try.prog 152 [.d (pages l), .fn g [.dptr [.v (.int .i64 t)]]] (ri (idxG p l 0)) := by
  refine fn_of lv152 Try.func152 rfl rfl (by kernel_rfl) rfl ?_
  refine ⟨{ i : Nat // i ≤ l.length ∧ idxG p l i = idxG p l 0 }, fun i => ⟨frL [(0, .d (pages l)), (1, .fn g [.dptr [.v (.int .i64 t)]]), (7, di l.length), (8, di i.1)], hpL [], 0, 0⟩, fun i => l.length - i.1, ⟨0, by omega, rfl⟩,
    le_of [] rfl rfl rfl rfl trivial (tellFr_d rfl (DLe.refl _) (tellFr_fn rfl ⟨⟨DLe.refl _, trivial⟩, trivial⟩ (tellFr_v rfl rfl (tellFr_v rfl rfl trivial)))), ?_⟩
  rintro ⟨i, hi, hall⟩
  refine bsplit_intro (fun h => ?_) (fun h => ?_)
  · have h : i < l.length := by simp at h; exact h
    refine ask_intro ⟨by omega, by simp; omega, rfl⟩ ?_
    refine .inl ⟨_, _, rfl, hg (l.getD i ⟨0, 0⟩), rfl, ?_⟩
    refine bsplit_intro (fun h2 => ?_) (fun h2 => ?_)
    · exact ⟨⟨congrArg (Value.int .i64) ((idxG_hit ⟨0, 0⟩ h h2).symm.trans hall), trivial⟩, rfl⟩
    · exact ⟨⟨i + 1, by omega, (idxG_miss ⟨0, 0⟩ h h2).symm.trans hall⟩, le_of [] rfl rfl rfl rfl trivial (tellFr_d rfl (DLe.refl _) (tellFr_fn rfl ⟨⟨DLe.refl _, trivial⟩, trivial⟩ (tellFr_v rfl rfl (tellFr_v rfl (congrArg (Value.int .i64) (wrap_i64 (i + 1) (by omega) (by omega) : IntKind.i64.wrap ((i : Int) + 1) = ((i + 1 : Nat) : Int))) trivial)))), by show l.length - (i + 1) < l.length - i; omega⟩
  · simp at h
    exact ⟨⟨congrArg (Value.int .i64) ((idxG_end h).symm.trans hall), trivial⟩, rfl⟩
theorem c_slices_ContainsFunc_Page1 (g : Nat) (t : Int) (p : PageM → Bool) (hg : ∀ x, FnOK Try.prog g [pageLV x, .dptr [.v (.int .i64 t)]] (rb (p x))) (l : List PageM) (hl : l.length ≤ 9223372036854775807) : FnOK Try.prog 136 [.d (pages l), .fn g [.dptr [.v (.int .i64 t)]]] (rb (l.any p)) := by
  refine fn_of lv136 Try.func136 rfl rfl (by kernel_rfl) rfl ?_
  refine .inl ⟨_, _, rfl, c_slices_IndexFunc_Page1 g t p hg _ hl, rfl, ?_⟩
  exact ⟨⟨congrArg Value.bool (idxG_any l p), trivial⟩, rfl⟩
theorem c_impl_stepFault_1 (x : PageM) (t : Int) : FnOK Try.prog 137 [pageLV x, .dptr [.v (.int .i64 t)]] (rb (decide (x.to ≥ t))) := by
  refine fn_of lv137 Try.func137 rfl rfl (by kernel_rfl) rfl ?_
  exact ⟨⟨rfl, trivial⟩, rfl⟩
/-! ## where a place leads -/
abbrev andI (a b : Int) : Int := IntKind.i64.wrap (BitVec.ofInt 64 a &&& BitVec.ofInt 64 b).toNat
def pageAt (l : List PageM) (at_ : Int) : PageM := l.getD (IntKind.i64.wrap (Int.tdiv at_ 8)).toNat ⟨0, 0⟩
/-- -1: nowhere -/
def walkP (l : List PageM) (at_ kind : Int) : Int :=
  bif !inR at_ 0 63 then -1 else bif decide ((pageAt l at_).to < 0) || (andI (pageAt l at_).kinds kind == 0) then -1 else IntKind.i64.wrap (IntKind.i64.wrap ((pageAt l at_).to * 8) + Int.tmod at_ 8)
theorem div8 {a : Int} (h : 0 ≤ a) (h2 : a ≤ 63) : IntKind.i64.wrap (Int.tdiv a 8) = Int.tdiv a 8 ∧ 0 ≤ Int.tdiv a 8 ∧ Int.tdiv a 8 ≤ 7 := by
  have h3 : Int.tdiv a 8 = a / 8 := Int.tdiv_eq_ediv_of_nonneg h
  rw [h3]
  exact ⟨wrap_i64 _ (by omega) (by omega), by omega, by omega⟩
theorem c_spec_l4Walk (l : List PageM) (hl : l.length = 8) (at_ kind : Int) : FnOK Try.prog 134 [.d (pages l), di at_, di kind] (ri (walkP l at_ kind)) := by
  generalize hv : walkP l at_ kind = v
  unfold walkP at hv
  refine fn_of lv134 Try.func134 rfl rfl (by kernel_rfl) rfl ?_
  refine .inl ⟨_, _, rfl, c_spec_l1In at_ 0 63, rfl, ?_⟩
  refine bsplit_intro (fun h => ?_) (fun h => ?_)
  · rw [h] at hv
    exact ⟨⟨congrArg (Value.int .i64) hv, trivial⟩, rfl⟩
  rw [h, cond_false] at hv
  have h2 := inR_iff.1 (by simpa using h : inR at_ 0 63 = true)
  obtain ⟨e1, e2, e3⟩ := div8 h2.1 h2.2
  refine ask_intro (by decide) ?_
  refine ask_intro ⟨by omega, by omega, rfl⟩ ?_
  refine bsplit_intro (fun h3 => ?_) (fun h3 => ?_)
  · repeat' (first | refine bsplit_true ?_ | refine bsplit_false ?_)
    rw [show decide ((pageAt l at_).to < 0) = true from h3] at hv
    exact ⟨⟨congrArg (Value.int .i64) hv, trivial⟩, rfl⟩
  rw [show decide ((pageAt l at_).to < 0) = false from h3, Bool.false_or] at hv
  repeat' (first | refine bsplit_true ?_ | refine bsplit_false ?_)
  refine bsplit_intro (fun h4 => ?_) (fun h4 => ?_)
  · rw [show (andI (pageAt l at_).kinds kind == 0) = true from h4] at hv
    exact ⟨⟨congrArg (Value.int .i64) hv, trivial⟩, rfl⟩
  rw [show (andI (pageAt l at_).kinds kind == 0) = false from h4, cond_false] at hv
  refine ask_intro (by decide) ?_
  exact ⟨⟨congrArg (Value.int .i64) hv, trivial⟩, rfl⟩
def kindC (k : Int) : Int := if k = 1 then 7 else if k = 2 then 8 else if k = 4 then 9 else 0
theorem c_impl_kindCode (k : Int) : FnOK Try.prog 105 [di k] (ri (kindC k)) := by
  generalize hv : kindC k = v
  unfold kindC at hv
  refine fn_of lv105 Try.func105 rfl rfl (by kernel_rfl) rfl ?_
  refine bsplit_intro (fun h => ?_) (fun h => ?_)
  · rw [if_pos (by simpa using h)] at hv
    exact ⟨⟨congrArg (Value.int .i64) hv, trivial⟩, rfl⟩
  rw [if_neg (by simpa using h)] at hv
  refine bsplit_intro (fun h => ?_) (fun h => ?_)
  · rw [if_pos (by simpa using h)] at hv
    exact ⟨⟨congrArg (Value.int .i64) hv, trivial⟩, rfl⟩
  rw [if_neg (by simpa using h)] at hv
  refine bsplit_intro (fun h => ?_) (fun h => ?_)
  · rw [if_pos (by simpa using h)] at hv
    exact ⟨⟨congrArg (Value.int .i64) hv, trivial⟩, rfl⟩
  rw [if_neg (by simpa using h)] at hv
  exact ⟨⟨congrArg (Value.int .i64) hv, trivial⟩, rfl⟩
theorem c_spec_l4Code (k : Int) (hk : k = 1 ∨ k = 2 ∨ k = 4) : FnOK Try.prog 139 [di k] (ri (kindC k)) := by
  generalize hv : kindC k = v
  unfold kindC at hv
  refine fn_of lv139 Try.func139 rfl rfl (by kernel_rfl) rfl ?_
  refine bsplit_intro (fun h => ?_) (fun h => ?_)
  · rw [if_pos (by simpa using h)] at hv
    exact ⟨⟨congrArg (Value.int .i64) hv, trivial⟩, rfl⟩
  rw [if_neg (by simpa using h)] at hv
  refine bsplit_intro (fun h2 => ?_) (fun h2 => ?_)
  · rw [if_pos (by simpa using h2)] at hv
    exact ⟨⟨congrArg (Value.int .i64) hv, trivial⟩, rfl⟩
  rw [if_neg (by simpa using h2), if_pos (by simp at h h2; omega)] at hv
  exact ⟨⟨congrArg (Value.int .i64) hv, trivial⟩, rfl⟩
def kindOk (k : Int) : Bool := (k == 1) || ((k == 2) || (k == 4))
theorem c_spec_l4Kind (k : Int) : FnOK Try.prog 103 [di k] (rb (kindOk k)) := by
  generalize hv : kindOk k = v
  unfold kindOk at hv
  refine fn_of lv103 Try.func103 rfl rfl (by kernel_rfl) rfl ?_
  refine bsplit_intro (fun h => ?_) (fun h => ?_)
  · repeat' (first | refine bsplit_true ?_ | refine bsplit_false ?_)
    rw [h] at hv
    exact ⟨⟨congrArg Value.bool hv, trivial⟩, rfl⟩
  rw [h, Bool.false_or] at hv
  repeat' (first | refine bsplit_true ?_ | refine bsplit_false ?_)
  refine bsplit_intro (fun h => ?_) (fun h => ?_)
  · repeat' (first | refine bsplit_true ?_ | refine bsplit_false ?_)
    rw [h] at hv
    exact ⟨⟨congrArg Value.bool hv, trivial⟩, rfl⟩
  rw [h, Bool.false_or] at hv
  repeat' (first | refine bsplit_true ?_ | refine bsplit_false ?_)
  exact ⟨⟨congrArg Value.bool hv, trivial⟩, rfl⟩
theorem kindC_ok (k : Int) : (kindC k == 0) = !kindOk k := by
  unfold kindC kindOk
  by_cases h1 : k = 1
  · subst h1; rfl
  by_cases h2 : k = 2
  · subst h2; rfl
  by_cases h4 : k = 4
  · subst h4; rfl
  simp [h1, h2, h4]
theorem c_impl_hasPage (a : Int) : FnOK Try.prog 148 [di a] (rb (inR a 0 63)) := by
  refine fn_of lv148 Try.func148 rfl rfl (by kernel_rfl) rfl ?_
  refine .inl ⟨_, _, rfl, c_impl_within a 0 63, rfl, ?_⟩
  exact ⟨⟨rfl, trivial⟩, rfl⟩
/-- where a place leads, with a code -/
def walkI (l : List PageM) (at_ kind : Int) : Int × Int := if walkP l at_ kind < 0 then (kindC kind, 0) else (0, walkP l at_ kind)
structure PgsOK (l : List PageM) (top : Int) : Prop where
  len : l.length = 8
  at_ : ∀ p ∈ l, -1 ≤ p.to ∧ p.to < top ∧ 0 ≤ p.kinds ∧ p.kinds ≤ 7
theorem PgsOK.get {l : List PageM} {top : Int} (h : PgsOK l top) {i : Nat} (hi : i < 8) : -1 ≤ (l.getD i ⟨0, 0⟩).to ∧ (l.getD i ⟨0, 0⟩).to < top := by
  rw [getD_at _ (by rw [h.len]; exact hi)]
  have := h.at_ _ (List.getElem_mem (by rw [h.len]; exact hi : i < l.length))
  exact ⟨this.1, this.2.1⟩
theorem walk_get {l : List PageM} {top at_ : Int} (h : PgsOK l top) (ht : top ≤ 24) (ha : inR at_ 0 63 = true) (h0 : ¬ (pageAt l at_).to < 0) :
    IntKind.i64.wrap (IntKind.i64.wrap ((pageAt l at_).to * 8) + Int.tmod at_ 8) = (pageAt l at_).to * 8 + Int.tmod at_ 8 ∧ 0 ≤ (pageAt l at_).to * 8 + Int.tmod at_ 8 ∧ (pageAt l at_).to * 8 + Int.tmod at_ 8 < top * 8 := by
  have h2 := inR_iff.1 ha
  obtain ⟨e1, e2, e3⟩ := div8 h2.1 h2.2
  have h3 : Int.tmod at_ 8 = at_ % 8 := Int.tmod_eq_emod_of_nonneg h2.1
  have h4 : (pageAt l at_).to < top := (h.get (by rw [e1]; omega)).2
  have e4 : IntKind.i64.wrap ((pageAt l at_).to * 8) = (pageAt l at_).to * 8 := wrap_i64 _ (by omega) (by omega)
  rw [e4, h3]
  exact ⟨wrap_i64 _ (by omega) (by omega), by omega, by omega⟩
theorem c_impl_walk (l : List PageM) (top : Int) (hl : PgsOK l top) (ht : top ≤ 24) (at_ kind : Int) : FnOK Try.prog 116 [.d (pages l), di at_, di kind] (.r (irR (walkI l at_ kind))) := by
  have hlen := hl.len
  obtain ⟨v, hv⟩ : ∃ v, v = walkI l at_ kind := ⟨_, rfl⟩
  rw [← hv]
  unfold walkI walkP at hv
  have hw : inR at_ 0 63 = true → decide ((pageAt l at_).to < 0) = false → _ := fun a b => walk_get hl ht a (of_decide_eq_false b)
  have hd : inR at_ 0 63 = true → _ := fun a => div8 (inR_iff.1 a).1 (inR_iff.1 a).2
  refine fn_of lv116 Try.func116 rfl rfl (by kernel_rfl) rfl ?_
  refine .inl ⟨_, _, rfl, c_impl_hasPage at_, rfl, ?_⟩
  refine bsplit_intro (fun h => ?_) (fun h => ?_)
  · repeat' (first | refine bsplit_true ?_ | refine bsplit_false ?_)
    rw [h, cond_true, if_pos (by decide)] at hv
    subst hv
    refine .inl ⟨_, _, rfl, c_impl_kindCode kind, rfl, ?_⟩
    exact ⟨⟨rfl, rfl, trivial⟩, rfl⟩
  rw [h, cond_false] at hv
  have hin : inR at_ 0 63 = true := by simpa using h
  have e1 := (hd hin).1
  have e2 := (hd hin).2.1
  have e3 := (hd hin).2.2
  repeat' (first | refine bsplit_true ?_ | refine bsplit_false ?_)
  refine ask_intro (by decide) ?_
  repeat' (first | refine bsplit_true ?_ | refine bsplit_false ?_)
  refine ask_intro ⟨by omega, by show IntKind.i64.wrap (Int.tdiv at_ 8) < (l.length : Int); omega, rfl⟩ ?_
  repeat' (first | refine bsplit_true ?_ | refine bsplit_false ?_)
  refine bsplit_intro (fun h3 => ?_) (fun h3 => ?_)
  · repeat' (first | refine bsplit_true ?_ | refine bsplit_false ?_)
    rw [show decide ((pageAt l at_).to < 0) = true from h3, Bool.true_or, cond_true, if_pos (by decide)] at hv
    subst hv
    refine .inl ⟨_, _, rfl, c_impl_kindCode kind, rfl, ?_⟩
    exact ⟨⟨rfl, rfl, trivial⟩, rfl⟩
  rw [show decide ((pageAt l at_).to < 0) = false from h3, Bool.false_or] at hv
  have w1 := (hw hin h3).1
  have w2 := (hw hin h3).2.1
  repeat' (first | refine bsplit_true ?_ | refine bsplit_false ?_)
  refine ask_intro (by decide) ?_
  repeat' (first | refine bsplit_true ?_ | refine bsplit_false ?_)
  refine ask_intro ⟨by omega, by show IntKind.i64.wrap (Int.tdiv at_ 8) < (l.length : Int); omega, rfl⟩ ?_
  repeat' (first | refine bsplit_true ?_ | refine bsplit_false ?_)
  refine bsplit_intro (fun h4 => ?_) (fun h4 => ?_)
  · rw [show (andI (pageAt l at_).kinds kind == 0) = true from h4, cond_true, if_pos (by decide)] at hv
    subst hv
    refine .inl ⟨_, _, rfl, c_impl_kindCode kind, rfl, ?_⟩
    exact ⟨⟨rfl, rfl, trivial⟩, rfl⟩
  rw [show (andI (pageAt l at_).kinds kind == 0) = false from h4, cond_false, if_neg (by rw [w1]; omega)] at hv
  subst hv
  refine ask_intro (by decide) ?_
  refine ask_intro ⟨by omega, by show IntKind.i64.wrap (Int.tdiv at_ 8) < (l.length : Int); omega, rfl⟩ ?_
  refine ask_intro (by decide) ?_
  exact ⟨⟨rfl, rfl, trivial⟩, rfl⟩
end Go.Proofs.Ytfcekiehcchebaa.L

/- What the functions compute that read pages out of words: contracts. -/
set_option linter.unusedVariables false
set_option linter.unusedSimpArgs false
set_option maxRecDepth 100000
namespace Go.Proofs.Ytfcekiehcchebaa.L
open Go.RowKit
abbrev pageR (p : PageM) : RV1 := .agg [.v (.int .i64 p.to), .v (.int .i64 p.kinds)]
theorem c_spec_l4None : FnOK Try.prog 159 [] (.r (pageR ⟨-1, 0⟩)) := by
  refine fn_of lv159 Try.func159 rfl rfl (by kernel_rfl) rfl ?_
  exact ⟨⟨rfl, rfl, trivial⟩, rfl⟩
theorem c_impl_nowhere : FnOK Try.prog 118 [] (.r (pageR ⟨-1, 0⟩)) := by
  refine fn_of lv118 Try.func118 rfl rfl (by kernel_rfl) rfl ?_
  exact ⟨⟨rfl, rfl, trivial⟩, rfl⟩
def entryP (w : Int) : PageM := bif (Int.tmod w 8 == 0) || decide (IntKind.i64.wrap (Int.tdiv w 8) ≥ 8) then ⟨-1, 0⟩ else ⟨IntKind.i64.wrap (Int.tdiv w 8), Int.tmod w 8⟩
theorem c_spec_l4Entry (w : Int) : FnOK Try.prog 151 [di w] (.r (pageR (entryP w))) := by
  generalize hv : entryP w = v
  unfold entryP at hv
  refine fn_of lv151 Try.func151 rfl rfl (by kernel_rfl) rfl ?_
  refine ask_intro (by decide) ?_
  refine ask_intro (by decide) ?_
  refine bsplit_intro (fun h => ?_) (fun h => ?_)
  · repeat' (first | refine bsplit_true ?_ | refine bsplit_false ?_)
    rw [h] at hv
    subst hv
    refine .inl ⟨_, _, rfl, c_spec_l4None, rfl, ?_⟩
    exact ⟨⟨rfl, rfl, trivial⟩, rfl⟩
  rw [h, Bool.false_or] at hv
  repeat' (first | refine bsplit_true ?_ | refine bsplit_false ?_)
  refine bsplit_intro (fun h => ?_) (fun h => ?_)
  · rw [h] at hv
    subst hv
    refine .inl ⟨_, _, rfl, c_spec_l4None, rfl, ?_⟩
    exact ⟨⟨rfl, rfl, trivial⟩, rfl⟩
  rw [h] at hv
  subst hv
  exact ⟨⟨rfl, rfl, trivial⟩, rfl⟩
theorem c_impl_entryOf (w : Int) : FnOK Try.prog 153 [di w] (.r (pageR (entryP w))) := by
  generalize hv : entryP w = v
  unfold entryP at hv
  refine fn_of lv153 Try.func153 rfl rfl (by kernel_rfl) rfl ?_
  refine ask_intro (by decide) ?_
  refine ask_intro (by decide) ?_
  refine bsplit_intro (fun h => ?_) (fun h => ?_)
  · repeat' (first | refine bsplit_true ?_ | refine bsplit_false ?_)
    rw [h] at hv
    subst hv
    refine .inl ⟨_, _, rfl, c_impl_nowhere, rfl, ?_⟩
    exact ⟨⟨rfl, rfl, trivial⟩, rfl⟩
  rw [h, Bool.false_or] at hv
  repeat' (first | refine bsplit_true ?_ | refine bsplit_false ?_)
  refine bsplit_intro (fun h => ?_) (fun h => ?_)
  · rw [h] at hv
    subst hv
    refine .inl ⟨_, _, rfl, c_impl_nowhere, rfl, ?_⟩
    exact ⟨⟨rfl, rfl, trivial⟩, rfl⟩
  rw [h] at hv
  subst hv
  exact ⟨⟨rfl, rfl, trivial⟩, rfl⟩
abbrev pgsR (p : Int × List PageM) : RV1 := .agg [.v (.int .i64 p.1), oPages p.2]
abbrev pgsLV (p : Int × List PageM) : LV := .agg [di p.1, .d (pages p.2)]
def pagesFrom (l : List Int) : Int × List PageM := bif (l.length : Int) != 8 then (1, []) else bif !l.all isW then (3, []) else (0, l.map entryP)
theorem app_pages (l : List PageM) (p : PageM) (i : Nat) (h : i < l.length + 1) : upto l.length (pagesF l) (fun i => ([pageD p] : List (List D)).getD i []) i = pagesF (l ++ [p]) i := by
  unfold upto
  show _ = pageD ((l ++ [p]).getD i ⟨0, 0⟩)
  split
  · rename_i h; show pageD (l.getD i ⟨0, 0⟩) = _; simp [List.getD, List.getElem?_append, h]
  · have : i = l.length := by omega
    subst this
    simp [List.getD]
theorem one_len2 (p : PageM) (i : Nat) (hi : i < 1) : (([pageD p] : List (List D)).getD i []).length = 2 := by
  obtain rfl : i = 0 := by omega
  rfl
theorem take_mapG {α β : Type} (d : α) (f : α → β) (l : List α) (i : Nat) (h : i < l.length) : (l.map f).take i ++ [f (l.getD i d)] = (l.map f).take (i + 1) := by
  rw [List.take_add_one, List.getElem?_map, List.getElem?_eq_getElem h, getD_at d h]
  rfl
theorem c_impl_PagesFrom (l : List Int) (hl : l.length ≤ 1048576) : FnOK Try.prog 138 [.d (ints l)] (.r (pgsR (pagesFrom l))) := by
  generalize hv : pagesFrom l = v
  unfold pagesFrom at hv
  refine fn_of lv138 Try.func138 rfl rfl (by kernel_rfl) rfl ?_
  refine bsplit_intro (fun h => ?_) (fun h => ?_)
  · rw [h] at hv
    subst hv
    exact ⟨⟨rfl, ⟨rfl, rfl⟩, trivial⟩, rfl⟩
  rw [h, cond_false] at hv
  refine .inl ⟨_, _, rfl, c_impl_areWords l (by omega), rfl, ?_⟩
  refine bsplit_intro (fun h => ?_) (fun h => ?_)
  · rw [h] at hv
    subst hv
    exact ⟨⟨rfl, ⟨rfl, rfl⟩, trivial⟩, rfl⟩
  rw [h, cond_false] at hv
  subst hv
  refine ⟨{ i : Nat // i ≤ l.length }, fun i => ⟨frL [(2, .ptr 10 0), (3, .row 11), (15, .d (ints l)), (16, di l.length), (17, di i.1)], hpL [(10, .box 71 [di 0, dv (.slice none 0 0)]), (11, .row 129 2 ((l.map entryP).take i.1).length (pagesF ((l.map entryP).take i.1)))], 100, 0⟩, fun i => l.length - i.1, ⟨0, by omega⟩,
    le_of [(10, 0), (11, 12288)] rfl rfl rfl rfl (tellHp_box rfl rfl ⟨rfl, rfl, trivial⟩ (tellHp_row rfl rfl (show 0 = _ by simp) (fun j hj => absurd hj (by omega)) tellHp_nil)) (tellFr_ptr rfl rfl (tellFr_row rfl rfl (tellFr_d rfl (DLe.refl _) (tellFr_v rfl rfl (tellFr_v rfl rfl trivial))))), ?_⟩
  rintro ⟨i, hi⟩
  refine bsplit_intro (fun h2 => ?_) (fun h2 => ?_)
  · have h2 : i < l.length := by simpa using h2
    have hlen : ((l.map entryP).take i).length = i := by simp; omega
    have htk : (l.map entryP).take i ++ [entryP (l.getD i 0)] = (l.map entryP).take (i + 1) := take_mapG 0 entryP l i h2
    have hw : IntKind.i64.wrap ((i : Int) + 1) = ((i + 1 : Nat) : Int) := wrap_i64 (i + 1) (by omega) (by omega)
    refine ask_intro ⟨by omega, by show (i : Int) < l.length; omega, rfl⟩ ?_
    refine .inl ⟨_, _, rfl, c_impl_entryOf (l.getD i 0), rfl, ?_⟩
    refine ask_intro ⟨by show (((l.map entryP).take i).length + 1) * 16 ≤ 140737488355328; omega, by show ((l.map entryP).take i).length + 1 ≤ 9223372036854775807; omega, one_len2 _⟩ ?_
    exact ⟨⟨i + 1, by omega⟩, le_of [(10, 10), (11, 8420)] rfl rfl rfl rfl (tellHp_box rfl rfl ⟨rfl, rfl, trivial⟩ (tellHp_row rfl rfl (show ((l.map entryP).take i).length + 1 = ((l.map entryP).take (i + 1)).length by rw [← htk]; simp) (fun j hj => (app_pages ((l.map entryP).take i) (entryP (l.getD i 0)) j hj).trans (by rw [htk])) tellHp_nil)) (tellFr_ptr rfl rfl (tellFr_row rfl rfl (tellFr_d rfl (DLe.refl _) (tellFr_v rfl rfl (tellFr_v rfl (congrArg (Value.int .i64) hw) trivial))))), by show l.length - (i + 1) < l.length - i; omega⟩
  · have h2 : i = l.length := by simp at h2; omega
    have hfull : (l.map entryP).take i = l.map entryP := by rw [List.take_of_length_le]; simp; omega
    exact ⟨⟨rfl, ⟨rfl, rfl, congrArg List.length hfull, fun j hj => ⟨congrArg (fun x => pagesF x j) hfull, rfl⟩⟩, trivial⟩, rfl⟩
def rowOr (k : Nat) : Nat → LV
  | 0 => dv (.slice none 0 0)
  | _ + 1 => .row k
theorem c_spec_PagesFrom (l : List Int) (hl : l.length ≤ 1048576) : FnOK Try.prog 135 [.d (ints l)] (.r (pgsR (pagesFrom l))) := by
  generalize hv : pagesFrom l = v
  unfold pagesFrom at hv
  refine fn_of lv135 Try.func135 rfl rfl (by kernel_rfl) rfl ?_
  refine bsplit_intro (fun h => ?_) (fun h => ?_)
  · rw [h] at hv
    subst hv
    exact ⟨⟨rfl, ⟨rfl, rfl⟩, trivial⟩, rfl⟩
  rw [h, cond_false] at hv
  have hl8 : l.length = 8 := by simp at h; omega
  refine ⟨{ i : Nat // i ≤ l.length ∧ (l.drop i).all isW = l.all isW }, fun i => ⟨frL [(0, .d (ints l)), (2, .ptr 10 0), (3, .ptr 12 0), (4, di i.1)], hpL (match i.1 with
      | 0 => [(10, .box 71 [di 0, dv (.slice none 0 0)]), (12, .box 71 [di 0, dv (.slice none 0 0)])]
      | k + 1 => [(10, .box 71 [di 0, dv (.slice none 0 0)]), (12, .box 71 [di 0, .row 11]), (11, .row 129 2 ((l.map entryP).take (k + 1)).length (pagesF ((l.map entryP).take (k + 1))))]), 100, 0⟩, fun i => l.length - i.1, ⟨0, by omega, by simp⟩,
    le_of [(10, 0), (12, 8224)] rfl rfl rfl rfl (tellHp_box rfl rfl ⟨rfl, rfl, trivial⟩ (tellHp_box rfl rfl ⟨rfl, rfl, trivial⟩ tellHp_nil)) (tellFr_d rfl (DLe.refl _) (tellFr_ptr rfl rfl (tellFr_ptr rfl rfl (tellFr_v rfl rfl trivial)))), ?_⟩
  rintro ⟨i, hi, hall⟩
  have hd : ∀ (h : i < l.length), (l.drop i).all isW = (isW (l.getD i 0) && (l.drop (i + 1)).all isW) := fun h => drop_all l isW i h
  have hw : IntKind.i64.wrap ((i : Int) + 1) = ((i + 1 : Nat) : Int) := wrap_i64 (i + 1) (by omega) (by omega)
  have hlen : ((l.map entryP).take i).length = i := by simp; omega
  have htk : i < l.length → (l.map entryP).take i ++ [entryP (l.getD i 0)] = (l.map entryP).take (i + 1) := fun h2 => take_mapG 0 entryP l i h2
  cases i with
  | zero =>
    refine bsplit_intro (fun h2 => ?_) (fun h2 => ?_)
    · have h2 : 0 < l.length := by omega
      refine ask_intro ⟨by omega, by show ((0 : Nat) : Int) < l.length; omega, rfl⟩ ?_
      refine .inl ⟨_, _, rfl, c_spec_l1In (l.getD 0 0) 0 4294967295, rfl, ?_⟩
      refine bsplit_intro (fun h3 => ?_) (fun h3 => ?_)
      · have h3 : isW (l.getD 0 0) = false := by simpa [isW] using h3
        rw [← hall, hd h2, h3] at hv
        subst hv
        exact ⟨⟨rfl, ⟨rfl, rfl⟩, trivial⟩, rfl⟩
      have h3 : isW (l.getD 0 0) = true := by simpa [isW] using h3
      refine ask_intro ⟨by omega, by show ((0 : Nat) : Int) < l.length; omega, rfl⟩ ?_
      refine .inl ⟨_, _, rfl, c_spec_l4Entry (l.getD 0 0), rfl, ?_⟩
      refine ask_intro ⟨by decide, by decide, one_len2 _⟩ ?_
      refine chk_intro (by kernel_rfl) ?_
      exact ⟨⟨0 + 1, by omega, by rw [← hall, hd h2, h3]; rfl⟩, le_of [(10, 10), (12, 12), (11, 8548)] rfl rfl rfl rfl (tellHp_box rfl rfl ⟨rfl, rfl, trivial⟩ (tellHp_box rfl rfl ⟨rfl, rfl, trivial⟩ (tellHp_row rfl rfl (show 1 = ((l.map entryP).take (0 + 1)).length by rw [← htk h2]; simp) (fun j hj => by
          have hj : j = 0 := by omega
          subst hj
          show pageD (entryP (l.getD 0 0)) = pagesF ((l.map entryP).take (0 + 1)) 0
          rw [← htk h2]; rfl) tellHp_nil))) (tellFr_d rfl (DLe.refl _) (tellFr_ptr rfl rfl (tellFr_ptr rfl rfl (tellFr_v rfl (congrArg (Value.int .i64) hw) trivial)))), by show l.length - (0 + 1) < l.length - 0; omega⟩
    · exact absurd (of_decide_eq_false h2) (by show ¬ ¬ ((0 : Nat) : Int) < l.length; omega)
  | succ i =>
    refine bsplit_intro (fun h2 => ?_) (fun h2 => ?_)
    · have h2 : i + 1 < l.length := by simp at h2; omega
      refine ask_intro ⟨by omega, by show ((i + 1 : Nat) : Int) < l.length; omega, rfl⟩ ?_
      refine .inl ⟨_, _, rfl, c_spec_l1In (l.getD (i + 1) 0) 0 4294967295, rfl, ?_⟩
      refine bsplit_intro (fun h3 => ?_) (fun h3 => ?_)
      · have h3 : isW (l.getD (i + 1) 0) = false := by simpa [isW] using h3
        rw [← hall, hd h2, h3] at hv
        subst hv
        exact ⟨⟨rfl, ⟨rfl, rfl⟩, trivial⟩, rfl⟩
      have h3 : isW (l.getD (i + 1) 0) = true := by simpa [isW] using h3
      refine ask_intro ⟨by omega, by show ((i + 1 : Nat) : Int) < l.length; omega, rfl⟩ ?_
      refine .inl ⟨_, _, rfl, c_spec_l4Entry (l.getD (i + 1) 0), rfl, ?_⟩
      refine ask_intro ⟨by show (((l.map entryP).take (i + 1)).length + 1) * 16 ≤ 140737488355328; omega, by show ((l.map entryP).take (i + 1)).length + 1 ≤ 9223372036854775807; omega, one_len2 _⟩ ?_
      refine chk_intro (by kernel_rfl) ?_
      exact ⟨⟨i + 1 + 1, by omega, by rw [← hall, hd h2, h3]; rfl⟩, le_of [(10, 10), (12, 12), (11, 8548)] rfl rfl rfl rfl (tellHp_box rfl rfl ⟨rfl, rfl, trivial⟩ (tellHp_box rfl rfl ⟨rfl, rfl, trivial⟩ (tellHp_row rfl rfl (show ((l.map entryP).take (i + 1)).length + 1 = ((l.map entryP).take (i + 1 + 1)).length by rw [← htk h2]; simp) (fun j hj => (app_pages ((l.map entryP).take (i + 1)) (entryP (l.getD (i + 1) 0)) j hj).trans (by rw [htk h2])) tellHp_nil)))
        (tellFr_d rfl (DLe.refl _) (tellFr_ptr rfl rfl (tellFr_ptr rfl rfl (tellFr_v rfl (congrArg (Value.int .i64) hw) trivial)))), by show l.length - (i + 1 + 1) < l.length - (i + 1); omega⟩
    · have h2 : i + 1 = l.length := by simp at h2; omega
      have hfull : (l.map entryP).take (i + 1) = l.map entryP := by rw [List.take_of_length_le]; simp; omega
      have ha : l.all isW = true := by rw [← hall, List.drop_eq_nil_of_le (by omega)]; rfl
      rw [ha] at hv
      subst hv
      exact ⟨⟨rfl, ⟨rfl, rfl, congrArg List.length hfull, fun j hj => ⟨congrArg (fun x => pagesF x j) hfull, rfl⟩⟩, trivial⟩, rfl⟩
end Go.Proofs.Ytfcekiehcchebaa.L

/- What the functions compute that tell the words of a lonely machine's page: contracts. -/
set_option linter.unusedVariables false
set_option linter.unusedSimpArgs false
set_option maxRecDepth 100000
namespace Go.Proofs.Ytfcekiehcchebaa.L
open Go.RowKit
abbrev irsR (p : Int × List Int) : RV1 := .agg [.v (.int .i64 p.1), oInts p.2]
abbrev irsLV (p : Int × List Int) : LV := .agg [di p.1, .d (ints p.2)]
def soloWords (x : SoloM) (p : Int) : Int × List Int := if soloFault x = 0 then (bif !inR p 0 7 then (3, []) else (0, pageW x.mem p)) else (soloFault x, [])
theorem soloFault_mem {x : SoloM} (h : soloFault x = 0) : x.mem.length = 64 := by
  unfold soloFault at h
  split at h
  · split at h
    · cases hb : (memFault x.mem != 0) || ((x.mem.length : Int) != 64) with
      | true => rw [hb] at h; simp at h
      | false => simp only [Bool.or_eq_false_iff, bne_eq_false_iff_eq] at hb; omega
    · rename_i h2; exact absurd h h2
  · rename_i h2; exact absurd h h2
theorem c_impl_SoloWords (x : SoloM) (hs : x.small) (hp : x.pages.length ≤ 1048576) (hm : x.mem.length ≤ 1048576) (p : Int) : FnOK Try.prog 38 [soloLV x, di p] (.r (irsR (soloWords x p))) := by
  generalize hr : soloWords x p = r
  unfold soloWords at hr
  refine fn_of lv38 Try.func38 rfl rfl (by kernel_rfl) rfl ?_
  refine .inl ⟨_, _, rfl, c_impl_SoloFault x hs hp hm, rfl, ?_⟩
  refine bsplit_intro (fun h => ?_) (fun h => ?_)
  · rw [if_neg (by simpa using h)] at hr
    subst hr
    exact ⟨⟨rfl, ⟨rfl, rfl⟩, trivial⟩, rfl⟩
  have h0 : soloFault x = 0 := by simpa using h
  have hl := soloFault_mem h0
  rw [if_pos h0] at hr
  refine .inl ⟨_, _, rfl, c_impl_within _ _ _, rfl, ?_⟩
  refine bsplit_intro (fun h1 => ?_) (fun h1 => ?_)
  · rw [h1] at hr
    subst hr
    exact ⟨⟨rfl, ⟨rfl, rfl⟩, trivial⟩, rfl⟩
  have hk := inR_iff.1 (show inR p 0 7 = true by simpa using h1)
  rw [h1] at hr
  subst hr
  refine .inl ⟨_, _, rfl, c_impl_pageOf x.mem p hk.1 (by omega) (by omega), rfl, ?_⟩
  exact ⟨⟨rfl, ⟨rfl, rfl, rfl, fun i hi => ⟨rfl, rfl⟩⟩, trivial⟩, rfl⟩
theorem c_spec_SoloWords (x : SoloM) (hs : x.small) (hp : x.pages.length ≤ 1048576) (hm : x.mem.length ≤ 1048576) (p : Int) : FnOK Try.prog 37 [soloLV x, di p] (.r (irsR (soloWords x p))) := by
  generalize hr : soloWords x p = r
  unfold soloWords at hr
  refine fn_of lv37 Try.func37 rfl rfl (by kernel_rfl) rfl ?_
  refine .inl ⟨_, _, rfl, c_spec_SoloFault x hs hp hm, rfl, ?_⟩
  refine bsplit_intro (fun h => ?_) (fun h => ?_)
  · rw [if_neg (by simpa using h)] at hr
    subst hr
    exact ⟨⟨rfl, ⟨rfl, rfl⟩, trivial⟩, rfl⟩
  have h0 : soloFault x = 0 := by simpa using h
  have hl := soloFault_mem h0
  rw [if_pos h0] at hr
  refine .inl ⟨_, _, rfl, c_spec_l1In _ _ _, rfl, ?_⟩
  refine bsplit_intro (fun h1 => ?_) (fun h1 => ?_)
  · rw [h1] at hr
    subst hr
    exact ⟨⟨rfl, ⟨rfl, rfl⟩, trivial⟩, rfl⟩
  have hk := inR_iff.1 (show inR p 0 7 = true by simpa using h1)
  rw [h1] at hr
  subst hr
  have cw := c_spec_l7Words x.mem [p] hm (by simp) (fun q hq => by obtain rfl : q = p := by simpa using hq
                                                                   exact ⟨hk.1, by omega⟩)
  rw [show wordsL x.mem [p] = pageW x.mem p by simp [wordsL]] at cw
  refine .inl ⟨_, _, rfl, cw.weak ⟨LVLe.refl _, LVLe.d (DLe.l rfl (fun i hi => litD_eq [p] i hi)), trivial⟩, rfl, ?_⟩
  exact ⟨⟨rfl, ⟨rfl, rfl, rfl, fun i hi => ⟨rfl, rfl⟩⟩, trivial⟩, rfl⟩
end Go.Proofs.Ytfcekiehcchebaa.L

/- What the law functions compute on an answer that is a code and a row of words: contracts. -/
set_option linter.unusedVariables false
set_option linter.unusedSimpArgs false
set_option maxRecDepth 100000
namespace Go.Proofs.Ytfcekiehcchebaa.L
open Go.RowKit
theorem c_laws_eqIntsResult (p q : Int × List Int) (hs : p.2.length ≤ 9223372036854775807) : FnOK Try.prog 39 [irsLV p, irsLV q] (rb (decide (p = q))) := by
  refine fn_of lv39 Try.func39 rfl rfl (by kernel_rfl) rfl ?_
  repeat' (first | refine bsplit_true ?_ | refine bsplit_false ?_ | refine .inl ⟨_, _, rfl, c_laws_eqInt64S p.2 q.2 hs, rfl, ?_⟩ | refine bsplit_intro (fun h => ?_) (fun h => ?_))
  all_goals refine ⟨⟨congrArg Value.bool ?_, trivial⟩, rfl⟩
  all_goals (obtain ⟨a1, a2⟩ := p; obtain ⟨b1, b2⟩ := q; simp_all)
theorem c_laws_markIntsResult (p : Int × List Int) (k : Int) (hf : p.2.length ≤ 1099511627776) (hk : 0 ≤ k) (hk2 : k ≤ 1099511627776) : MutOK Try.prog 41 [.agg [di p.1, .row 0], di k] 1 [(0, rowE p.2)] (di (k + p.2.length)) 1 [(0, rowM p.2 k)] := by
  refine mut_fn_of lv41 Try.func41 rfl rfl (by kernel_rfl) rfl [] ?_
  refine .inr ⟨rfl, use_mut ⟨_, _, _, _, _, _, rfl, rfl, c_laws_markInt64S p.2 k hf hk hk2, rfl, ?_⟩⟩
  exact chk_intro (by kernel_rfl) ⟨tellV_v rfl rfl, tellHp_row rfl rfl rfl (fun j hj => rfl) tellHp_nil⟩
theorem c_laws_heldIntsResult (p : Int × List Int) (k : Int) (hf : p.2.length ≤ 1099511627776) (hk : 0 ≤ k) (hk2 : k ≤ 1099511627776) : FnOK Try.prog 42 [.agg [di p.1, datM p.2 k], di k] (ri (k + p.2.length)) := by
  refine fn_of lv42 Try.func42 rfl rfl (by kernel_rfl) rfl ?_
  refine .inl ⟨_, _, rfl, c_laws_heldInt64S k p.2.length hf hk hk2, rfl, ?_⟩
  refine bsplit_of_false (decide_eq_false (show ¬ k + (p.2.length : Int) < 0 by omega)) ?_
  exact ⟨⟨rfl, trivial⟩, rfl⟩
end Go.Proofs.Ytfcekiehcchebaa.L

/- What the law functions compute that mark pages: contracts. -/
set_option linter.unusedVariables false
set_option linter.unusedSimpArgs false
set_option maxRecDepth 100000
namespace Go.Proofs.Ytfcekiehcchebaa.L
open Go.RowKit
abbrev rowP (l : List PageM) : Ent := .row 129 2 l.length (pagesF l)
/-- pages that bear the numbers from k on -/
abbrev pageMk (k : Int) (j : Nat) : List D := [.v (.int .i64 (k + 2 * (j : Int))), .v (.int .i64 (k + 2 * (j : Int) + 1))]
theorem c_laws_markPageS (l : List PageM) (k : Int) (hl : l.length ≤ 1099511627776) (hk : 0 ≤ k) (hk2 : k ≤ 1099511627776) :
    MutOK Try.prog 51 [.row 0, di k] 1 [(0, rowP l)] (di (k + 2 * l.length)) 1 [(0, .row 129 2 l.length (pageMk k))] := by
  refine mut_fn_of lv51 Try.func51 rfl rfl (by kernel_rfl) rfl [] ?_
  refine ⟨{ i : Nat // i ≤ l.length }, fun i => ⟨frL [(0, .row 0), (1, di (k + 2 * (i.1 : Int))), (5, di i.1)], hpL [(0, .row 129 2 l.length fun j => if j < i.1 then pageMk k j else pagesF l j)], 1, 1⟩, fun i => l.length - i.1, ⟨0, by omega⟩,
    le_of [] rfl rfl rfl rfl (tellHp_row rfl rfl rfl (fun i hi => rfl) tellHp_nil) (tellFr_row rfl rfl (tellFr_v rfl (congrArg (Value.int .i64) (?_ : k = k + 2 * ((0 : Nat) : Int))) (tellFr_v rfl rfl trivial))), ?_⟩
  · omega
  rintro ⟨i, hi⟩
  refine bsplit_intro (fun h => ?_) (fun h => ?_)
  · have h : i < l.length := by simp at h; exact h
    have w1 : IntKind.i64.wrap (k + 2 * (i : Int) + 1) = k + 2 * (i : Int) + 1 := wrap_i64 _ (by omega) (by omega)
    refine ask_intro ⟨by omega, by simp; omega⟩ ?_
    refine ask_intro (by show i < l.length; exact h) ?_
    refine ask_intro ⟨by omega, by simp; omega⟩ ?_
    refine ask_intro (by show i < l.length; exact h) ?_
    refine ⟨⟨i + 1, by omega⟩, le_of [] rfl rfl rfl rfl (tellHp_row rfl rfl rfl (fun j hj => ?_) tellHp_nil) (tellFr_row rfl rfl (tellFr_v rfl (congrArg (Value.int .i64) (?_ : IntKind.i64.wrap (IntKind.i64.wrap (k + 2 * (i : Int) + 1) + 1) = k + 2 * ((i + 1 : Nat) : Int))) (tellFr_v rfl (congrArg (Value.int .i64) (?_ : IntKind.i64.wrap ((i : Int) + 1) = ((i + 1 : Nat) : Int))) trivial))), by show l.length - (i + 1) < l.length - i; omega⟩
    · show (if j = i then splice (if j = i then splice (if j < i then pageMk k j else pagesF l j) 0 [D.v (.int .i64 (k + 2 * (i : Int)))] else if j < i then pageMk k j else pagesF l j) 1 [D.v (.int .i64 (IntKind.i64.wrap (k + 2 * (i : Int) + 1)))] else if j = i then splice (if j < i then pageMk k j else pagesF l j) 0 [D.v (.int .i64 (k + 2 * (i : Int)))] else if j < i then pageMk k j else pagesF l j) = if j < i + 1 then pageMk k j else pagesF l j
      by_cases h1 : j = i
      · subst h1
        rw [if_pos rfl, if_pos rfl, if_neg (by omega), if_pos (by omega), w1]
        rfl
      · rw [if_neg h1, if_neg h1]
        by_cases h2 : j < i
        · rw [if_pos h2, if_pos (by omega)]
        · rw [if_neg h2, if_neg (by omega)]
    · rw [w1, wrap_i64 _ (by omega) (by omega)]; omega
    · exact wrap_i64 (i + 1) (by omega) (by omega)
  · simp at h
    have e : i = l.length := by omega
    subst e
    refine chk_intro (by kernel_rfl) ⟨tellV_v rfl rfl, tellHp_row rfl rfl rfl (fun j hj => ?_) tellHp_nil⟩
    show (if j < l.length then pageMk k j else pagesF l j) = pageMk k j
    rw [if_pos hj]
end Go.Proofs.Ytfcekiehcchebaa.L

/- What the functions compute that draw pages and memories: contracts. -/
set_option linter.unusedVariables false
set_option linter.unusedSimpArgs false
set_option maxRecDepth 100000
namespace Go.Proofs.Ytfcekiehcchebaa.L
open Go.RowKit
set_option maxHeartbeats 2000000 in
theorem c_spec_l4Pages (c : List Int) (hc : okCode c) (p top : Int) (hp : 0 ≤ p) (hp2 : p ≤ 1099511627) (ht : 1 ≤ top) : MutS Try.prog 156 [.ptr 0 0, di top] 1 [(0, srcBox c p)]
    (fun lv m' hp1 => ∃ (l : List PageM) (q : Int), l.length = 8 ∧ p ≤ q ∧ q ≤ p + 100 ∧ lv = .row 1 ∧ m' = 2 ∧ hp1 = [(0, srcBox c q), (1, rowP l)]) := by
  refine mutS_fn_of lv156 Try.func156 rfl rfl (by kernel_rfl) rfl ?_
  refine ⟨{ x : List PageM × Int // x.1.length ≤ 8 ∧ p ≤ x.2 ∧ x.2 ≤ p + 3 * x.1.length }, fun x => ⟨frL [(0, .ptr 0 0), (1, di top), (5, .row 11), (6, di x.1.1.length)], hpL [(0, srcBox c x.1.2), (11, rowP x.1.1)], 100, 1⟩, fun x => 8 - x.1.1.length, ⟨([], p), by show 0 ≤ 8; omega, by show p ≤ p; omega, by show p ≤ p + 3 * ((0 : Nat) : Int); omega⟩,
    le_of [(11, 4097)] rfl rfl rfl rfl (tellHp_box rfl rfl ⟨DLe.refl _, rfl, trivial⟩ (tellHp_row rfl rfl rfl (fun j hj => absurd hj (by omega)) tellHp_nil)) (tellFr_ptr rfl rfl (tellFr_v rfl rfl (tellFr_row rfl rfl (tellFr_v rfl rfl trivial)))), ?_⟩
  rintro ⟨⟨l, q⟩, h1, h2, h3⟩
  simp only at h1 h2 h3
  refine bsplit_intro (fun h => ?_) (fun h => ?_)
  · have h : l.length < 8 := by simp at h; omega
    have hw : ∀ x : PageM, IntKind.i64.wrap ((l.length : Int) + 1) = ((l ++ [x]).length : Int) := fun x => by rw [wrap_i64 (l.length + 1) (by omega) (by omega)]; simp
    have hln : ∀ x : PageM, (l ++ [x]).length = l.length + 1 := fun x => by simp
    repeat' (first | refine bsplit_true ?_ | refine bsplit_false ?_ | (refine .inr ⟨rfl, use_mut ⟨?_, ?_, ?_, ?_, ?_, ?_, ?_, ?_, ?_, ?_, ?_⟩⟩; rotate_left 6; exact rfl; exact rfl; (first | (refine c_spec_l1Next c hc _ _ ?_ ?_ <;> (first | omega | (dsimp only; omega))) | (refine pick3 c hc _ _ _ _ ?_ ?_ <;> (first | omega | (dsimp only; omega))) | (refine pick4 c hc _ _ _ _ _ ?_ ?_ <;> (first | omega | (dsimp only; omega))) | (refine pick2 c hc _ _ _ ?_ ?_ <;> (first | omega | (dsimp only; omega))) | (refine pick6 c hc _ _ _ _ _ _ _ ?_ ?_ <;> (first | omega | (dsimp only; omega))) | (refine pick7 c hc _ _ _ _ _ _ _ _ ?_ ?_ <;> (first | omega | (dsimp only; omega))) | (refine pick5 c hc _ _ _ _ _ _ ?_ ?_ <;> (first | omega | (dsimp only; omega))) | (refine c_spec_l1Chance c hc _ _ ?_ ?_ <;> (first | omega | (dsimp only; omega))) | (refine c_spec_l1Word c hc _ ?_ ?_ <;> (first | omega | (dsimp only; omega)))); rfl))
    refine bsplit_intro (fun h6 => ?_) (fun h6 => ?_)
    · refine .inl ⟨_, _, rfl, c_spec_l4None, rfl, ?_⟩
      refine ask_intro ⟨by show (l.length + 1) * 16 ≤ 140737488355328; omega, by show l.length + 1 ≤ 9223372036854775807; omega, one_len2 ⟨-1, 0⟩⟩ ?_
      have hl2 := hln ⟨-1, 0⟩
      exact ⟨⟨(l ++ [(⟨-1, 0⟩ : PageM)], q + 1 + 1 + 1), by show (l ++ [(⟨-1, 0⟩ : PageM)]).length ≤ 8; omega, by show p ≤ q + 1 + 1 + 1; omega, by show q + 1 + 1 + 1 ≤ p + 3 * ((l ++ [(⟨-1, 0⟩ : PageM)]).length : Int); omega⟩,
        le_of [(11, 16580)] rfl rfl rfl rfl (tellHp_box rfl rfl ⟨DLe.refl _, rfl, trivial⟩ (tellHp_row rfl rfl hl2.symm (fun j hj => app_pages l ⟨-1, 0⟩ j hj) tellHp_nil)) (tellFr_ptr rfl rfl (tellFr_v rfl rfl (tellFr_row rfl rfl (tellFr_v rfl (congrArg (Value.int .i64) (hw _)) trivial)))), by show 8 - (l ++ [(⟨-1, 0⟩ : PageM)]).length < 8 - l.length; omega⟩
    · refine ask_intro ⟨by show (l.length + 1) * 16 ≤ 140737488355328; omega, by show l.length + 1 ≤ 9223372036854775807; omega, one_len2 ⟨nx c q top, pk c (q + 1) [7, 3, 1, 5, 2, 4]⟩⟩ ?_
      have hl2 := hln ⟨nx c q top, pk c (q + 1) [7, 3, 1, 5, 2, 4]⟩
      exact ⟨⟨(l ++ [(⟨nx c q top, pk c (q + 1) [7, 3, 1, 5, 2, 4]⟩ : PageM)], q + 1 + 1 + 1), by show (l ++ [(⟨nx c q top, pk c (q + 1) [7, 3, 1, 5, 2, 4]⟩ : PageM)]).length ≤ 8; omega, by show p ≤ q + 1 + 1 + 1; omega, by show q + 1 + 1 + 1 ≤ p + 3 * ((l ++ [(⟨nx c q top, pk c (q + 1) [7, 3, 1, 5, 2, 4]⟩ : PageM)]).length : Int); omega⟩,
        le_of [(11, 12484)] rfl rfl rfl rfl (tellHp_box rfl rfl ⟨DLe.refl _, rfl, trivial⟩ (tellHp_row rfl rfl hl2.symm (fun j hj => app_pages l ⟨nx c q top, pk c (q + 1) [7, 3, 1, 5, 2, 4]⟩ j hj) tellHp_nil)) (tellFr_ptr rfl rfl (tellFr_v rfl rfl (tellFr_row rfl rfl (tellFr_v rfl (congrArg (Value.int .i64) (hw _)) trivial)))), by show 8 - (l ++ [(⟨nx c q top, pk c (q + 1) [7, 3, 1, 5, 2, 4]⟩ : PageM)]).length < 8 - l.length; omega⟩
  · have h : l.length = 8 := by simp at h; omega
    exact ⟨_, _, _, [(1, 11)], ⟨l, q, h, h2, by omega, rfl, rfl, rfl⟩, chk_intro (by kernel_rfl) ⟨rfl, tellHp_box rfl rfl ⟨DLe.refl _, rfl, trivial⟩ (tellHp_row rfl rfl rfl (fun j hj => rfl) tellHp_nil)⟩⟩
theorem set_pageT {l : List PageM} {i : Nat} {v : Int} (hi : i < l.length) (j : Nat) : (if j = i then splice (pagesF l j) 0 [D.v (.int .i64 v)] else pagesF l j) = pagesF (l.set i ⟨v, (l.getD i ⟨0, 0⟩).kinds⟩) j := by
  show _ = pageD ((l.set i ⟨v, (l.getD i ⟨0, 0⟩).kinds⟩).getD j ⟨0, 0⟩)
  by_cases e : j = i
  · subst e
    rw [if_pos rfl]
    simp [List.getD, hi, splice, List.getElem?_eq_getElem hi]
  · rw [if_neg e]
    show pageD (l.getD j ⟨0, 0⟩) = _
    simp [List.getD, List.getElem?_set_ne (Ne.symm e)]
theorem set_pageK {l : List PageM} {i : Nat} {v : Int} (hi : i < l.length) (j : Nat) : (if j = i then splice (pagesF l j) 1 [D.v (.int .i64 v)] else pagesF l j) = pagesF (l.set i ⟨(l.getD i ⟨0, 0⟩).to, v⟩) j := by
  show _ = pageD ((l.set i ⟨(l.getD i ⟨0, 0⟩).to, v⟩).getD j ⟨0, 0⟩)
  by_cases e : j = i
  · subst e
    rw [if_pos rfl]
    simp [List.getD, hi, splice, List.getElem?_eq_getElem hi]
  · rw [if_neg e]
    show pageD (l.getD j ⟨0, 0⟩) = _
    simp [List.getD, List.getElem?_set_ne (Ne.symm e)]
theorem set_pageB {l : List PageM} {i : Nat} {v : PageM} (hi : i < l.length) (j : Nat) : (if j = i then splice (pagesF l j) 0 (pageD v) else pagesF l j) = pagesF (l.set i v) j := by
  show _ = pageD ((l.set i v).getD j ⟨0, 0⟩)
  by_cases e : j = i
  · subst e
    rw [if_pos rfl]
    simp [List.getD, hi, splice, List.getElem?_eq_getElem hi]
  · rw [if_neg e]
    show pageD (l.getD j ⟨0, 0⟩) = _
    simp [List.getD, List.getElem?_set_ne (Ne.symm e)]
theorem drop_pages (l : List PageM) (k i : Nat) : pagesF l (k + i) = pagesF (l.drop k) i := by
  show pageD (l.getD (k + i) ⟨0, 0⟩) = pageD ((l.drop k).getD i ⟨0, 0⟩)
  simp [List.getD, List.getElem?_drop]
end Go.Proofs.Ytfcekiehcchebaa.L

/- Pages drawn with something bent, answered as an own row or a part of one: a contract. -/
set_option linter.unusedVariables false
set_option linter.unusedSimpArgs false
set_option maxRecDepth 100000
namespace Go.Proofs.Ytfcekiehcchebaa.L
open Go.RowKit
set_option maxHeartbeats 2000000 in
theorem c_spec_l4BentK (c : List Int) (hc : okCode c) (p top : Int) (hp : 0 ≤ p) (hp2 : p ≤ 109951162) (ht : 1 ≤ top) : MutS Try.prog 144 [.ptr 0 0, di top] 1 [(0, srcBox c p)]
    (fun lv m' hp1 => ∃ (l : List PageM) (q : Int), l.length = 8 ∧ p ≤ q ∧ q ≤ p + 110 ∧ (lv = .row 1 ∨ lv = .sub 1 2 1 8) ∧ m' = 2 ∧ hp1 = [(0, srcBox c q), (1, rowP l)]) := by
  refine mutS_fn_of lv144 Try.func144 rfl rfl (by kernel_rfl) rfl ?_
  refine .inr ⟨rfl, use_mutS ⟨_, _, _, _, rfl, rfl, c_spec_l4Pages c hc p top hp (by omega) ht, rfl, ?_⟩⟩
  rintro _ _ _ ⟨l, q, hl, hq1, hq2, rfl, rfl, rfl⟩
  refine ⟨rfl, ?_⟩
  have h8 := nx_in (c := c) hc (p := q) (n := 8) (by omega) (by omega)
  have hlt : nx c q 8 < (l.length : Int) := by rw [hl]; omega
  have hln : (nx c q 8).toNat < l.length := by omega
  have fin : ∀ k : Nat, k = k := fun _ => rfl
  repeat' (first | refine bsplit_true ?_ | refine bsplit_false ?_ | (refine .inr ⟨rfl, use_mut ⟨?_, ?_, ?_, ?_, ?_, ?_, ?_, ?_, ?_, ?_, ?_⟩⟩; rotate_left 6; exact rfl; exact rfl; (first | (refine c_spec_l1Next c hc _ _ ?_ ?_ <;> (first | omega | (dsimp only; omega))) | (refine pick3 c hc _ _ _ _ ?_ ?_ <;> (first | omega | (dsimp only; omega))) | (refine pick4 c hc _ _ _ _ _ ?_ ?_ <;> (first | omega | (dsimp only; omega))) | (refine pick2 c hc _ _ _ ?_ ?_ <;> (first | omega | (dsimp only; omega))) | (refine pick6 c hc _ _ _ _ _ _ _ ?_ ?_ <;> (first | omega | (dsimp only; omega))) | (refine pick7 c hc _ _ _ _ _ _ _ _ ?_ ?_ <;> (first | omega | (dsimp only; omega))) | (refine pick5 c hc _ _ _ _ _ _ ?_ ?_ <;> (first | omega | (dsimp only; omega))) | (refine c_spec_l1Chance c hc _ _ ?_ ?_ <;> (first | omega | (dsimp only; omega))) | (refine c_spec_l1Word c hc _ ?_ ?_ <;> (first | omega | (dsimp only; omega)))); rfl))
  refine bsplit_intro (fun h => ?_) (fun h => ?_)
  · repeat' (first | refine bsplit_true ?_ | refine bsplit_false ?_ | (refine .inr ⟨rfl, use_mut ⟨?_, ?_, ?_, ?_, ?_, ?_, ?_, ?_, ?_, ?_, ?_⟩⟩; rotate_left 6; exact rfl; exact rfl; (first | (refine c_spec_l1Next c hc _ _ ?_ ?_ <;> (first | omega | (dsimp only; omega))) | (refine pick3 c hc _ _ _ _ ?_ ?_ <;> (first | omega | (dsimp only; omega))) | (refine pick4 c hc _ _ _ _ _ ?_ ?_ <;> (first | omega | (dsimp only; omega))) | (refine pick2 c hc _ _ _ ?_ ?_ <;> (first | omega | (dsimp only; omega))) | (refine pick6 c hc _ _ _ _ _ _ _ ?_ ?_ <;> (first | omega | (dsimp only; omega))) | (refine pick7 c hc _ _ _ _ _ _ _ _ ?_ ?_ <;> (first | omega | (dsimp only; omega))) | (refine pick5 c hc _ _ _ _ _ _ ?_ ?_ <;> (first | omega | (dsimp only; omega))) | (refine c_spec_l1Chance c hc _ _ ?_ ?_ <;> (first | omega | (dsimp only; omega))) | (refine c_spec_l1Word c hc _ ?_ ?_ <;> (first | omega | (dsimp only; omega)))); rfl))
    refine ask_intro ⟨h8.1, hlt⟩ ?_
    refine ask_intro (by show (nx c q 8).toNat < l.length; exact hln) ?_
    exact ⟨_, _, _, [(1, 4161)], ⟨l.set (nx c q 8).toNat ⟨pk c (q + 1 + 1) [-2, top, -1], (l.getD (nx c q 8).toNat ⟨0, 0⟩).kinds⟩, q + 1 + 1 + 1, by rw [List.length_set]; exact hl, by omega, by omega, .inl rfl, rfl, rfl⟩,
      chk_intro (by kernel_rfl) ⟨rfl, tellHp_box rfl rfl ⟨DLe.refl _, rfl, trivial⟩ (tellHp_row rfl rfl (by rw [List.length_set]) (fun j hj => set_pageT hln j) tellHp_nil)⟩⟩
  refine bsplit_intro (fun h1 => ?_) (fun h1 => ?_)
  · repeat' (first | refine bsplit_true ?_ | refine bsplit_false ?_ | (refine .inr ⟨rfl, use_mut ⟨?_, ?_, ?_, ?_, ?_, ?_, ?_, ?_, ?_, ?_, ?_⟩⟩; rotate_left 6; exact rfl; exact rfl; (first | (refine c_spec_l1Next c hc _ _ ?_ ?_ <;> (first | omega | (dsimp only; omega))) | (refine pick3 c hc _ _ _ _ ?_ ?_ <;> (first | omega | (dsimp only; omega))) | (refine pick4 c hc _ _ _ _ _ ?_ ?_ <;> (first | omega | (dsimp only; omega))) | (refine pick2 c hc _ _ _ ?_ ?_ <;> (first | omega | (dsimp only; omega))) | (refine pick6 c hc _ _ _ _ _ _ _ ?_ ?_ <;> (first | omega | (dsimp only; omega))) | (refine pick7 c hc _ _ _ _ _ _ _ _ ?_ ?_ <;> (first | omega | (dsimp only; omega))) | (refine pick5 c hc _ _ _ _ _ _ ?_ ?_ <;> (first | omega | (dsimp only; omega))) | (refine c_spec_l1Chance c hc _ _ ?_ ?_ <;> (first | omega | (dsimp only; omega))) | (refine c_spec_l1Word c hc _ ?_ ?_ <;> (first | omega | (dsimp only; omega)))); rfl))
    refine ask_intro ⟨h8.1, hlt⟩ ?_
    refine ask_intro (by show (nx c q 8).toNat < l.length; exact hln) ?_
    exact ⟨_, _, _, [(1, 4161)], ⟨l.set (nx c q 8).toNat ⟨(l.getD (nx c q 8).toNat ⟨0, 0⟩).to, pk c (q + 1 + 1) [-1, 8, 0, 7]⟩, q + 1 + 1 + 1, by rw [List.length_set]; exact hl, by omega, by omega, .inl rfl, rfl, rfl⟩,
      chk_intro (by kernel_rfl) ⟨rfl, tellHp_box rfl rfl ⟨DLe.refl _, rfl, trivial⟩ (tellHp_row rfl rfl (by rw [List.length_set]) (fun j hj => set_pageK hln j) tellHp_nil)⟩⟩
  refine bsplit_intro (fun h2 => ?_) (fun h2 => ?_)
  · refine ask_intro ⟨by omega, by show (1 : Int) ≤ (l.length : Int); omega, by show (0 : Int) + (l.length : Int) ≤ (l.length : Int); omega, .inr rfl⟩ ?_
    exact ⟨_, _, _, [(1, 4161)], ⟨l, q + 1 + 1, hl, by omega, by omega, .inr rfl, rfl, rfl⟩,
      chk_intro (by kernel_rfl) ⟨tellV_sub rfl rfl (show 0 + (l.length : Int).toNat = 8 by omega), tellHp_box rfl rfl ⟨DLe.refl _, rfl, trivial⟩ (tellHp_row rfl rfl rfl (fun j hj => rfl) tellHp_nil)⟩⟩
  · exact ⟨_, _, _, [(1, 4161)], ⟨l, q + 1 + 1, hl, by omega, by omega, .inl rfl, rfl, rfl⟩,
      chk_intro (by kernel_rfl) ⟨rfl, tellHp_box rfl rfl ⟨DLe.refl _, rfl, trivial⟩ (tellHp_row rfl rfl rfl (fun j hj => rfl) tellHp_nil)⟩⟩
end Go.Proofs.Ytfcekiehcchebaa.L

/- What the functions compute that draw a machine: contracts. -/
set_option linter.unusedVariables false
set_option linter.unusedSimpArgs false
set_option maxRecDepth 100000
namespace Go.Proofs.Ytfcekiehcchebaa.L
open Go.RowKit
structure HartM.drawn (m : HartM) : Prop where
  regs : m.regs.length = 16
  csr : m.csr.length = 11
  inp : m.inp.length ≤ 2
  out : m.out.length ≤ 40
abbrev hartN : List LV := [dv (.slice none 0 0), di 0, dv (.slice none 0 0), dv (.bool false), dv (.bool false), dv (.bool false), di 0, dv (.slice none 0 0), dv (.slice none 0 0)]
abbrev drawMem (c : List Int) (m : HartM) (p : Int) : List (Nat × Ent) := [(0, srcBox c p), (10, .box 30 hartN), (11, .box 30 (hartK m 12 13 14 15)), (12, rowE m.regs), (13, rowE m.csr), (14, rowE m.inp), (15, rowE m.out)]
theorem setM_drawn {m : HartM} (h : m.drawn) (k w : Int) : (setM m k w).drawn := by
  obtain ⟨h1, h2, h3, h4⟩ := h
  unfold setM setCsrL
  (repeat' split) <;> exact ⟨by simpa using h1, by simpa using h2, by simpa using h3, by simpa using h4⟩
set_option maxHeartbeats 2000000 in
theorem c_spec_l8Hart (c : List Int) (hc : okCode c) (p : Int) (hp : 0 ≤ p) (hp2 : p ≤ 1099511627) : MutS Try.prog 126 [.ptr 0 0] 1 [(0, srcBox c p)]
    (fun lv m' hp1 => ∃ (m : HartM) (q : Int), m.drawn ∧ p ≤ q ∧ q ≤ p + 1000 ∧ lv = .agg (hartK m 1 2 3 4) ∧ m' = 5 ∧ hp1 = [(0, srcBox c q), (1, rowE m.regs), (2, rowE m.csr), (3, rowE m.inp), (4, rowE m.out)]) := by
  refine mutS_fn_of lv126 Try.func126 rfl rfl (by kernel_rfl) rfl ?_
  obtain ⟨k, h3, h3', hk⟩ := nextE c hc p 3 (by omega) (by omega) (by omega)
  refine .inr ⟨rfl, use_mut ⟨_, _, _, _, _, _, rfl, rfl, hk, rfl, ?_⟩⟩
  have hl : (([7, 8] : List Int).take k.toNat).length = k.toNat := by simp; omega
  refine ask_intro ⟨by omega, by omega, by show k ≤ 2; omega, .inl rfl⟩ ?_
  have hnh : (newHart (([7, 8] : List Int).take k.toNat)).2.drawn := by
    have : k = 0 ∨ k = 1 ∨ k = 2 := by omega
    rcases this with rfl | rfl | rfl <;> exact ⟨by decide, by decide, by decide, by decide⟩
  have hlit : DLe (.l (k - 0).toNat (litD [7, 8])) (ints (([7, 8] : List Int).take k.toNat)) := DLe.l (by rw [hl]; omega) (fun i hi => by
    rw [litD_eq _ _ (by simp; omega)]
    show [D.v (.int .i64 (([7, 8] : List Int).getD i 0))] = [D.v (.int .i64 ((([7, 8] : List Int).take k.toNat).getD i 0))]
    simp only [List.getD, List.getElem?_take]
    rw [if_pos (by omega)])
  refine .inl ⟨_, _, rfl, (c_spec_NewHart (([7, 8] : List Int).take k.toNat) (by rw [hl]; omega)).weak ⟨LVLe.d hlit, trivial⟩, rfl, ?_⟩
  generalize newHart (([7, 8] : List Int).take k.toNat) = q0 at *
  refine ⟨{ x : Nat × HartM × Int // 1 ≤ x.1 ∧ x.1 ≤ 16 ∧ x.2.1.drawn ∧ p + 1 ≤ x.2.2 ∧ x.2.2 ≤ p + 1 + 20 * x.1 }, fun x => ⟨frL [(0, .ptr 0 0), (2, .ptr 10 0), (3, .ptr 11 0), (4, di x.1.1)], hpL (drawMem c x.1.2.1 x.1.2.2), 100, 1⟩, fun x => 16 - x.1.1, ⟨(1, q0.2, p + 1), by omega, by omega, hnh, by show p + 1 ≤ p + 1; omega, by show p + 1 ≤ p + 1 + 20 * ((1 : Nat) : Int); omega⟩,
    le_of [(10, 1), (11, 4289), (12, 4226), (13, 4228), (14, 4233), (15, 4234)] rfl rfl rfl rfl
      (tellHp_box rfl rfl ⟨DLe.refl _, rfl, trivial⟩ (tellHp_box rfl rfl ⟨rfl, rfl, rfl, rfl, rfl, rfl, rfl, rfl, rfl, trivial⟩ (tellHp_box rfl rfl ⟨rfl, rfl, rfl, rfl, rfl, rfl, rfl, rfl, rfl, trivial⟩ (tellHp_row rfl rfl rfl (fun j hj => rfl) (tellHp_row rfl rfl rfl (fun j hj => rfl) (tellHp_row rfl rfl rfl (fun j hj => rfl) (tellHp_row rfl rfl rfl (fun j hj => rfl) tellHp_nil)))))))
      (tellFr_ptr rfl rfl (tellFr_ptr rfl rfl (tellFr_ptr rfl rfl (tellFr_v rfl rfl trivial)))), ?_⟩
  rintro ⟨⟨i, m, q⟩, h1, h16, hd, hq1, hq2⟩
  simp only at h1 h16 hd hq1 hq2
  refine bsplit_intro (fun hb => ?_) (fun hb => ?_)
  · have hi : i < 16 := by simp at hb; omega
    obtain ⟨v0, hv0⟩ := chanceE c hc q 3 (by omega) (by omega)
    refine .inr ⟨rfl, use_mut ⟨_, _, _, _, _, _, rfl, rfl, hv0, rfl, ?_⟩⟩
    have hw : IntKind.i64.wrap ((i : Int) + 1) = ((i + 1 : Nat) : Int) := wrap_i64 (i + 1) (by omega) (by omega)
    refine bsplit_intro (fun hb2 => ?_) (fun hb2 => ?_)
    · obtain ⟨v1, hv1⟩ := wordE c hc (q + 1) (by omega) (by omega)
      obtain ⟨v2, _, _, hv2⟩ := nextE c hc (q + 1 + 5) 64 (by omega) (by omega) (by omega)
      obtain ⟨v3, _, _, hv3⟩ := nextE c hc (q + 1 + 5 + 1) 8 (by omega) (by omega) (by omega)
      obtain ⟨v, _, hP⟩ := pickE c hc (q + 1 + 5 + 1 + 1) [v1, v2, IntKind.i64.wrap (56 + v3)] (by omega) (by omega) (by simp)
      refine .inr ⟨_, _, use_mut ⟨_, _, _, _, _, _, rfl, rfl, hv1, rfl, ⟨rfl, rfl⟩⟩, ?_⟩
      refine .inr ⟨_, _, use_mut ⟨_, _, _, _, _, _, rfl, rfl, hv2, rfl, ⟨rfl, rfl⟩⟩, ?_⟩
      refine .inr ⟨_, _, use_mut ⟨_, _, _, _, _, _, rfl, rfl, hv3, rfl, ⟨rfl, rfl⟩⟩, ?_⟩
      refine .inr ⟨_, _, use_mut ⟨_, _, _, _, _, _, rfl, rfl, hP, rfl, ⟨rfl, rfl⟩⟩, ?_⟩
      refine ask_intro ⟨by omega, by show (i : Int) < m.regs.length; rw [hd.regs]; omega⟩ ?_
      refine ask_intro (show i < m.regs.length by rw [hd.regs]; omega) ?_
      refine chk_intro (by kernel_rfl) ?_
      refine ⟨⟨(i + 1, { m with regs := m.regs.set i v }, q + 9), by omega, by omega, ⟨by simpa using hd.regs, hd.csr, hd.inp, hd.out⟩, by show p + 1 ≤ q + 9; omega, by show q + 9 ≤ p + 1 + 20 * ((i + 1 : Nat) : Int); omega⟩, le_of [(10, 10), (11, 11), (12, 12), (13, 13), (14, 14), (15, 15)] rfl rfl rfl rfl
        (tellHp_box rfl rfl ⟨DLe.refl _, congrArg (Value.int .i64) (by show q + 1 + 5 + 1 + 1 + 1 = q + 9; omega), trivial⟩ (tellHp_box rfl rfl ⟨rfl, rfl, rfl, rfl, rfl, rfl, rfl, rfl, rfl, trivial⟩ (tellHp_box rfl rfl ⟨rfl, rfl, rfl, rfl, rfl, rfl, rfl, rfl, rfl, trivial⟩ (tellHp_row rfl rfl (show m.regs.length = (m.regs.set i v).length by simp) (fun j hj => set_at (l := m.regs) (i := i) rfl (show i < m.regs.length by rw [hd.regs]; omega)) (tellHp_row rfl rfl rfl (fun j hj => rfl) (tellHp_row rfl rfl rfl (fun j hj => rfl) (tellHp_row rfl rfl rfl (fun j hj => rfl) tellHp_nil)))))))
        (tellFr_ptr rfl rfl (tellFr_ptr rfl rfl (tellFr_ptr rfl rfl (tellFr_v rfl (congrArg (Value.int .i64) (hw)) trivial)))), by show 16 - (i + 1) < 16 - i; omega⟩
    · refine ⟨⟨(i + 1, m, q + 1), by omega, by omega, hd, by show p + 1 ≤ q + 1; omega, by show q + 1 ≤ p + 1 + 20 * ((i + 1 : Nat) : Int); omega⟩, le_of [(10, 10), (11, 11), (12, 12), (13, 13), (14, 14), (15, 15)] rfl rfl rfl rfl
        (tellHp_box rfl rfl ⟨DLe.refl _, congrArg (Value.int .i64) (rfl), trivial⟩ (tellHp_box rfl rfl ⟨rfl, rfl, rfl, rfl, rfl, rfl, rfl, rfl, rfl, trivial⟩ (tellHp_box rfl rfl ⟨rfl, rfl, rfl, rfl, rfl, rfl, rfl, rfl, rfl, trivial⟩ (tellHp_row rfl rfl rfl (fun j hj => rfl) (tellHp_row rfl rfl rfl (fun j hj => rfl) (tellHp_row rfl rfl rfl (fun j hj => rfl) (tellHp_row rfl rfl rfl (fun j hj => rfl) tellHp_nil)))))))
        (tellFr_ptr rfl rfl (tellFr_ptr rfl rfl (tellFr_ptr rfl rfl (tellFr_v rfl (congrArg (Value.int .i64) (hw)) trivial)))), by show 16 - (i + 1) < 16 - i; omega⟩
  have hi : i = 16 := by simp at hb; omega
  subst hi
  clear hb
  obtain ⟨u1, _, _, hu1⟩ := nextE c hc q 24 (by omega) (by omega) (by omega)
  obtain ⟨u2, _, _, hu2⟩ := nextE c hc (q + 1) 24 (by omega) (by omega) (by omega)
  obtain ⟨u3, hu3⟩ := wordE c hc (q + 1 + 1) (by omega) (by omega)
  obtain ⟨u, _, hu⟩ := pickE c hc (q + 1 + 1 + 5) [u1, u2, u3] (by omega) (by omega) (by simp)
  obtain ⟨w, _, _, hw1⟩ := nextE c hc (q + 1 + 1 + 5 + 1) 90 (by omega) (by omega) (by omega)
  refine .inr ⟨rfl, use_mut ⟨_, _, _, _, _, _, rfl, rfl, hu1, rfl, ?_⟩⟩
  refine .inr ⟨rfl, use_mut ⟨_, _, _, _, _, _, rfl, rfl, hu2, rfl, ?_⟩⟩
  refine .inr ⟨rfl, use_mut ⟨_, _, _, _, _, _, rfl, rfl, hu3, rfl, ?_⟩⟩
  refine .inr ⟨rfl, use_mut ⟨_, _, _, _, _, _, rfl, rfl, hu, rfl, ?_⟩⟩
  refine .inr ⟨rfl, use_mut ⟨_, _, _, _, _, _, rfl, rfl, hw1, rfl, ?_⟩⟩
  refine ⟨{ x : Nat × HartM × Int // x.1 ≤ 11 ∧ x.2.1.drawn ∧ q + 9 ≤ x.2.2 ∧ x.2.2 ≤ q + 9 + 20 * x.1 }, fun x => ⟨frL [(0, .ptr 0 0), (2, .ptr 10 0), (3, .ptr 11 0), (5, di x.1.1)], hpL (drawMem c x.1.2.1 x.1.2.2), 100, 1⟩, fun x => 11 - x.1.1, ⟨(0, { m with pc := u, done := w }, q + 9), by omega, ⟨hd.regs, hd.csr, hd.inp, hd.out⟩, by show q + 9 ≤ q + 9; omega, by show q + 9 ≤ q + 9 + 20 * ((0 : Nat) : Int); omega⟩,
    le_of [(10, 10), (11, 11), (12, 12), (13, 13), (14, 14), (15, 15)] rfl rfl rfl rfl
        (tellHp_box rfl rfl ⟨DLe.refl _, congrArg (Value.int .i64) (by show q + 1 + 1 + 5 + 1 + 1 = q + 9; omega), trivial⟩ (tellHp_box rfl rfl ⟨rfl, rfl, rfl, rfl, rfl, rfl, rfl, rfl, rfl, trivial⟩ (tellHp_box rfl rfl ⟨rfl, rfl, rfl, rfl, rfl, rfl, rfl, rfl, rfl, trivial⟩ (tellHp_row rfl rfl rfl (fun j hj => rfl) (tellHp_row rfl rfl rfl (fun j hj => rfl) (tellHp_row rfl rfl rfl (fun j hj => rfl) (tellHp_row rfl rfl rfl (fun j hj => rfl) tellHp_nil)))))))
        (tellFr_ptr rfl rfl (tellFr_ptr rfl rfl (tellFr_ptr rfl rfl (tellFr_v rfl (congrArg (Value.int .i64) (rfl)) trivial)))), ?_⟩
  rintro ⟨⟨j, m2, r⟩, k1, kd, k2, k3⟩
  simp only at k1 kd k2 k3
  refine bsplit_intro (fun hb => ?_) (fun hb => ?_)
  · have hj : j < 11 := by simp at hb; omega
    have hw : IntKind.i64.wrap ((j : Int) + 1) = ((j + 1 : Nat) : Int) := wrap_i64 (j + 1) (by omega) (by omega)
    obtain ⟨v0, hv0⟩ := chanceE c hc r 2 (by omega) (by omega)
    refine .inr ⟨rfl, use_mut ⟨_, _, _, _, _, _, rfl, rfl, hv0, rfl, ?_⟩⟩
    refine bsplit_intro (fun hb2 => ?_) (fun hb2 => ?_)
    · obtain ⟨v1, _, _, hv1⟩ := nextE c hc (r + 1) 9 (by omega) (by omega) (by omega)
      obtain ⟨v2, _, _, hv2⟩ := nextE c hc (r + 1 + 1) 60 (by omega) (by omega) (by omega)
      obtain ⟨v3, hv3⟩ := wordE c hc (r + 1 + 1 + 1) (by omega) (by omega)
      obtain ⟨v, _, hP⟩ := pickE c hc (r + 1 + 1 + 1 + 5) [v1, v2, v3] (by omega) (by omega) (by simp)
      refine .inr ⟨rfl, use_mut ⟨_, _, _, _, _, _, rfl, rfl, hv1, rfl, ?_⟩⟩
      refine .inr ⟨rfl, use_mut ⟨_, _, _, _, _, _, rfl, rfl, hv2, rfl, ?_⟩⟩
      refine .inr ⟨rfl, use_mut ⟨_, _, _, _, _, _, rfl, rfl, hv3, rfl, ?_⟩⟩
      refine .inr ⟨rfl, use_mut ⟨_, _, _, _, _, _, rfl, rfl, hP, rfl, ?_⟩⟩
      refine .inr ⟨rfl, use_mut ⟨_, _, _, _, _, _, rfl, rfl, c_spec_l8Set m2 j v kd.csr (inR_iff.2 ⟨by omega, by omega⟩), rfl, ?_⟩⟩
      exact ⟨⟨(j + 1, setM m2 j v, r + 9), by omega, setM_drawn kd _ _, by show q + 9 ≤ r + 9; omega, by show r + 9 ≤ q + 9 + 20 * ((j + 1 : Nat) : Int); omega⟩, le_of [(10, 10), (11, 11), (12, 12), (13, 13), (14, 14), (15, 15)] rfl rfl rfl rfl
        (tellHp_box rfl rfl ⟨DLe.refl _, congrArg (Value.int .i64) (by show r + 1 + 1 + 1 + 5 + 1 = r + 9; omega), trivial⟩ (tellHp_box rfl rfl ⟨rfl, rfl, rfl, rfl, rfl, rfl, rfl, rfl, rfl, trivial⟩ (tellHp_box rfl rfl ⟨rfl, rfl, rfl, rfl, rfl, rfl, rfl, rfl, rfl, trivial⟩ (tellHp_row rfl rfl rfl (fun j hj => rfl) (tellHp_row rfl rfl rfl (fun j hj => rfl) (tellHp_row rfl rfl rfl (fun j hj => rfl) (tellHp_row rfl rfl rfl (fun j hj => rfl) tellHp_nil)))))))
        (tellFr_ptr rfl rfl (tellFr_ptr rfl rfl (tellFr_ptr rfl rfl (tellFr_v rfl (congrArg (Value.int .i64) (hw)) trivial)))), by show 11 - (j + 1) < 11 - j; omega⟩
    · exact ⟨⟨(j + 1, m2, r + 1), by omega, kd, by show q + 9 ≤ r + 1; omega, by show r + 1 ≤ q + 9 + 20 * ((j + 1 : Nat) : Int); omega⟩, le_of [(10, 10), (11, 11), (12, 12), (13, 13), (14, 14), (15, 15)] rfl rfl rfl rfl
        (tellHp_box rfl rfl ⟨DLe.refl _, congrArg (Value.int .i64) (rfl), trivial⟩ (tellHp_box rfl rfl ⟨rfl, rfl, rfl, rfl, rfl, rfl, rfl, rfl, rfl, trivial⟩ (tellHp_box rfl rfl ⟨rfl, rfl, rfl, rfl, rfl, rfl, rfl, rfl, rfl, trivial⟩ (tellHp_row rfl rfl rfl (fun j hj => rfl) (tellHp_row rfl rfl rfl (fun j hj => rfl) (tellHp_row rfl rfl rfl (fun j hj => rfl) (tellHp_row rfl rfl rfl (fun j hj => rfl) tellHp_nil)))))))
        (tellFr_ptr rfl rfl (tellFr_ptr rfl rfl (tellFr_ptr rfl rfl (tellFr_v rfl (congrArg (Value.int .i64) (hw)) trivial)))), by show 11 - (j + 1) < 11 - j; omega⟩
  have hj : j = 11 := by simp at hb; omega
  subst hj
  obtain ⟨b1, hb1⟩ := chanceE c hc r 3 (by omega) (by omega)
  obtain ⟨b2, hb2⟩ := chanceE c hc (r + 1) 8 (by omega) (by omega)
  obtain ⟨b3, hb3⟩ := chanceE c hc (r + 1 + 1) 20 (by omega) (by omega)
  obtain ⟨b4, hb4⟩ := chanceE c hc (r + 1 + 1 + 1) 20 (by omega) (by omega)
  refine .inr ⟨rfl, use_mut ⟨_, _, _, _, _, _, rfl, rfl, hb1, rfl, ?_⟩⟩
  refine .inr ⟨rfl, use_mut ⟨_, _, _, _, _, _, rfl, rfl, hb2, rfl, ?_⟩⟩
  refine .inr ⟨rfl, use_mut ⟨_, _, _, _, _, _, rfl, rfl, hb3, rfl, ?_⟩⟩
  refine .inr ⟨rfl, use_mut ⟨_, _, _, _, _, _, rfl, rfl, hb4, rfl, ?_⟩⟩
  refine bsplit_intro (fun hb => ?_) (fun hb => ?_)
  · refine ask_intro ⟨rfl, by decide, by decide, by decide⟩ ?_
    exact ⟨_, _, _, [(1, 12), (2, 13), (3, 14), (4, 20580)], ⟨{ m2 with rung := b1, waiting := b2, halted := b3, out := List.replicate 40 0 }, r + 1 + 1 + 1 + 1, ⟨kd.regs, kd.csr, kd.inp, by simp⟩, by omega, by omega, rfl, rfl, rfl⟩, chk_intro (by kernel_rfl) ⟨⟨rfl, rfl, rfl, rfl, rfl, rfl, rfl, rfl, rfl, trivial⟩,
      tellHp_box rfl rfl ⟨DLe.refl _, rfl, trivial⟩ (tellHp_row rfl rfl rfl (fun j hj => rfl) (tellHp_row rfl rfl rfl (fun j hj => rfl) (tellHp_row rfl rfl rfl (fun j hj => rfl) (tellHp_row rfl rfl rfl (fun j hj => (rep_get 40 j).symm) tellHp_nil))))⟩⟩
  · exact ⟨_, _, _, [(1, 12), (2, 13), (3, 14), (4, 15)], ⟨{ m2 with rung := b1, waiting := b2, halted := b3 }, r + 1 + 1 + 1 + 1, ⟨kd.regs, kd.csr, kd.inp, kd.out⟩, by omega, by omega, rfl, rfl, rfl⟩, chk_intro (by kernel_rfl) ⟨⟨rfl, rfl, rfl, rfl, rfl, rfl, rfl, rfl, rfl, trivial⟩,
      tellHp_box rfl rfl ⟨DLe.refl _, rfl, trivial⟩ (tellHp_row rfl rfl rfl (fun j hj => rfl) (tellHp_row rfl rfl rfl (fun j hj => rfl) (tellHp_row rfl rfl rfl (fun j hj => rfl) (tellHp_row rfl rfl rfl (fun j hj => rfl) tellHp_nil))))⟩⟩
end Go.Proofs.Ytfcekiehcchebaa.L

/- What the functions compute that draw a machine with something bent: contracts. -/
set_option linter.unusedVariables false
set_option linter.unusedSimpArgs false
set_option maxRecDepth 100000
namespace Go.Proofs.Ytfcekiehcchebaa.L
open Go.RowKit
theorem drop_intsB (l : List Int) (k i : Nat) : intsF l (k + i) = intsF (l.drop k) i := by
  show [D.v (.int .i64 (l.getD (k + i) 0))] = [D.v (.int .i64 ((l.drop k).getD i 0))]
  simp [List.getD, List.getElem?_drop]
theorem HartM.drawn.small {m : HartM} (h : m.drawn) : m.small := by
  obtain ⟨h1, h2, h3, h4⟩ := h
  exact ⟨by omega, by omega, by omega, by omega⟩
set_option maxHeartbeats 2000000 in
theorem c_spec_l8Bent (c : List Int) (hc : okCode c) (p : Int) (hp : 0 ≤ p) (hp2 : p ≤ 1099511) : MutS Try.prog 87 [.ptr 0 0] 1 [(0, srcBox c p)]
    (fun lv m' hp1 => ∃ (m : HartM) (q : Int), m.small ∧ m.few ∧ p ≤ q ∧ q ≤ p + 1100 ∧ lv = hartLV m ∧ m' = 1 ∧ hp1 = [(0, srcBox c q)]) := by
  refine mutS_fn_of lv87 Try.func87 rfl rfl (by kernel_rfl) rfl ?_
  refine .inr ⟨rfl, use_mutS ⟨_, _, _, _, rfl, rfl, c_spec_l8Hart c hc p (by omega) (by omega), rfl, ?_⟩⟩
  rintro _ _ _ ⟨m, q, hd, hq1, hq2, rfl, rfl, rfl⟩
  refine ⟨rfl, ?_⟩
  obtain ⟨k, hk1, hk2, hk⟩ := nextE c hc q 20 (by omega) (by omega) (by omega)
  refine .inr ⟨rfl, use_mut ⟨_, _, _, _, _, _, rfl, rfl, hk, rfl, ?_⟩⟩
  have e1 := hd.regs
  have e2 := hd.csr
  have e3 := hd.inp
  have e4 := hd.out
  have sm : ∀ m' : HartM, m'.regs.length ≤ 16 → m'.csr.length ≤ 11 → m'.inp.length ≤ 41 → m'.out.length ≤ 40 → m'.small ∧ m'.few := fun m' a1 a2 a3 a4 => ⟨⟨by omega, by omega, by omega, by omega⟩, ⟨by omega, by omega, by omega, by omega⟩⟩
  have fz : ∀ {P Q : Prop}, P → Q → P ∧ Q := fun a b => ⟨a, b⟩
  refine bsplit_intro (fun hb => ?_) (fun hb => ?_)
  · refine ask_intro ⟨by omega, by show (0 : Int) < m.regs.length; omega⟩ ?_
    refine ask_intro (show 0 < m.regs.length by omega) ?_
    obtain ⟨s1, s2⟩ := sm { m with regs := m.regs.set 0 1 } (by simp <;> omega) (by simp <;> omega) (by simp <;> omega) (by simp <;> omega)
    refine ⟨_, _, _, [], ⟨{ m with regs := m.regs.set 0 1 }, q + 1, s1, s2, by omega, by omega, rfl, rfl, rfl⟩, chk_intro (by kernel_rfl) ⟨?_, tellHp_box rfl rfl ⟨DLe.refl _, rfl, trivial⟩ tellHp_nil⟩⟩
    exact ⟨⟨rfl, DLe.l (show m.regs.length = (m.regs.set 0 1).length by simp) (fun i hi => set_at (l := m.regs) (i := 0) rfl (by omega))⟩, rfl, ⟨rfl, DLe.refl _⟩, rfl, rfl, rfl, rfl, ⟨rfl, DLe.refl _⟩, ⟨rfl, DLe.refl _⟩, trivial⟩
  refine bsplit_intro (fun hb => ?_) (fun hb => ?_)
  · refine ask_intro ⟨by omega, by show (1 : Int) ≤ m.regs.length; omega, by show (m.regs.length : Int) ≤ m.regs.length; omega, .inr (fun i hi => rfl)⟩ ?_
    obtain ⟨s1, s2⟩ := sm { m with regs := m.regs.drop 1 } (by simp <;> omega) (by simp <;> omega) (by simp <;> omega) (by simp <;> omega)
    refine ⟨_, _, _, [], ⟨{ m with regs := m.regs.drop 1 }, q + 1, s1, s2, by omega, by omega, rfl, rfl, rfl⟩, chk_intro (by kernel_rfl) ⟨?_, tellHp_box rfl rfl ⟨DLe.refl _, rfl, trivial⟩ tellHp_nil⟩⟩
    exact ⟨DLe.l (show ((m.regs.length : Int) - 1).toNat = (m.regs.drop 1).length by simp <;> omega) (fun i hi => drop_intsB m.regs 1 i), rfl, ⟨rfl, DLe.refl _⟩, rfl, rfl, rfl, rfl, ⟨rfl, DLe.refl _⟩, ⟨rfl, DLe.refl _⟩, trivial⟩
  refine bsplit_intro (fun hb => ?_) (fun hb => ?_)
  · obtain ⟨j, hj1, hj2, hj⟩ := nextE c hc (q + 1) 11 (by omega) (by omega) (by omega)
    obtain ⟨v, _, hP⟩ := pickE c hc (q + 1 + 1) [-1, 4, 9, 4294967296] (by omega) (by omega) (by simp)
    obtain ⟨s1, s2⟩ := sm { m with csr := m.csr.set j.toNat v } (by simp <;> omega) (by simp <;> omega) (by simp <;> omega) (by simp <;> omega)
    refine .inr ⟨_, _, use_mut ⟨_, _, _, _, _, _, rfl, rfl, hj, rfl, ⟨rfl, rfl⟩⟩, ?_⟩
    refine .inr ⟨_, _, use_mut ⟨_, _, _, _, _, _, rfl, rfl, hP, rfl, ⟨rfl, rfl⟩⟩, ?_⟩
    refine ask_intro ⟨by omega, by show j < m.csr.length; omega⟩ ?_
    refine ask_intro (show j.toNat < m.csr.length by omega) ?_
    refine chk_intro (by kernel_rfl) ?_
    refine ⟨_, _, _, [], ⟨{ m with csr := m.csr.set j.toNat v }, q + 1 + 1 + 1, s1, s2, by omega, by omega, rfl, rfl, rfl⟩, chk_intro (by kernel_rfl) ⟨?_, tellHp_box rfl rfl ⟨DLe.refl _, rfl, trivial⟩ tellHp_nil⟩⟩
    exact ⟨⟨rfl, DLe.refl _⟩, rfl, ⟨rfl, DLe.l (show m.csr.length = (m.csr.set j.toNat v).length by simp) (fun i hi => set_at (l := m.csr) (i := j.toNat) rfl (by omega))⟩, rfl, rfl, rfl, rfl, ⟨rfl, DLe.refl _⟩, ⟨rfl, DLe.refl _⟩, trivial⟩
  refine bsplit_intro (fun hb => ?_) (fun hb => ?_)
  · obtain ⟨v, _, hP⟩ := pickE c hc (q + 1) [-1, 4294967296] (by omega) (by omega) (by simp)
    refine .inr ⟨rfl, use_mut ⟨_, _, _, _, _, _, rfl, rfl, hP, rfl, ?_⟩⟩
    obtain ⟨s1, s2⟩ := sm { m with pc := v } (by simp <;> omega) (by simp <;> omega) (by simp <;> omega) (by simp <;> omega)
    refine ⟨_, _, _, [], ⟨{ m with pc := v }, q + 1 + 1, s1, s2, by omega, by omega, rfl, rfl, rfl⟩, chk_intro (by kernel_rfl) ⟨?_, tellHp_box rfl rfl ⟨DLe.refl _, rfl, trivial⟩ tellHp_nil⟩⟩
    exact ⟨⟨rfl, DLe.refl _⟩, rfl, ⟨rfl, DLe.refl _⟩, rfl, rfl, rfl, rfl, ⟨rfl, DLe.refl _⟩, ⟨rfl, DLe.refl _⟩, trivial⟩
  refine bsplit_intro (fun hb => ?_) (fun hb => ?_)
  · refine ask_intro ⟨rfl, by decide, by decide, by decide⟩ ?_
    obtain ⟨s1, s2⟩ := sm { m with inp := List.replicate 41 0 } (by simp <;> omega) (by simp <;> omega) (by simp) (by simp <;> omega)
    refine ⟨_, _, _, [], ⟨{ m with inp := List.replicate 41 0 }, q + 1, s1, s2, by omega, by omega, rfl, rfl, rfl⟩, chk_intro (by kernel_rfl) ⟨?_, tellHp_box rfl rfl ⟨DLe.refl _, rfl, trivial⟩ tellHp_nil⟩⟩
    exact ⟨⟨rfl, DLe.refl _⟩, rfl, ⟨rfl, DLe.refl _⟩, rfl, rfl, rfl, rfl, ⟨rfl, DLe.l rfl (fun i hi => (rep_get 41 i).symm)⟩, ⟨rfl, DLe.refl _⟩, trivial⟩
  obtain ⟨s1, s2⟩ := sm m (by omega) (by omega) (by omega) (by omega)
  refine bsplit_intro (fun hb => ?_) (fun hb => ?_)
  · obtain ⟨v, _, hP⟩ := pickE c hc (q + 1) [-1, 1000000000, 1000000001] (by omega) (by omega) (by simp)
    refine .inr ⟨rfl, use_mut ⟨_, _, _, _, _, _, rfl, rfl, hP, rfl, ?_⟩⟩
    obtain ⟨s1, s2⟩ := sm { m with done := v } (by simp <;> omega) (by simp <;> omega) (by simp <;> omega) (by simp <;> omega)
    refine ⟨_, _, _, [], ⟨{ m with done := v }, q + 1 + 1, s1, s2, by omega, by omega, rfl, rfl, rfl⟩, chk_intro (by kernel_rfl) ⟨?_, tellHp_box rfl rfl ⟨DLe.refl _, rfl, trivial⟩ tellHp_nil⟩⟩
    exact ⟨⟨rfl, DLe.refl _⟩, rfl, ⟨rfl, DLe.refl _⟩, rfl, rfl, rfl, rfl, ⟨rfl, DLe.refl _⟩, ⟨rfl, DLe.refl _⟩, trivial⟩
  · refine ⟨_, _, _, [], ⟨m, q + 1, s1, s2, by omega, by omega, rfl, rfl, rfl⟩, chk_intro (by kernel_rfl) ⟨?_, tellHp_box rfl rfl ⟨DLe.refl _, rfl, trivial⟩ tellHp_nil⟩⟩
    exact ⟨⟨rfl, DLe.refl _⟩, rfl, ⟨rfl, DLe.refl _⟩, rfl, rfl, rfl, rfl, ⟨rfl, DLe.refl _⟩, ⟨rfl, DLe.refl _⟩, trivial⟩
end Go.Proofs.Ytfcekiehcchebaa.L

/- A machine with something bent, its Csr still an own row: a contract. -/
set_option linter.unusedVariables false
set_option linter.unusedSimpArgs false
set_option maxRecDepth 100000
namespace Go.Proofs.Ytfcekiehcchebaa.L
open Go.RowKit
set_option maxHeartbeats 2000000 in
theorem c_spec_l8BentK (c : List Int) (hc : okCode c) (p : Int) (hp : 0 ≤ p) (hp2 : p ≤ 1099511) : MutS Try.prog 87 [.ptr 0 0] 1 [(0, srcBox c p)]
    (fun lv m' hp1 => ∃ (m : HartM) (q : Int), m.small ∧ m.few ∧ p ≤ q ∧ q ≤ p + 1100 ∧ m.csr.length = 11 ∧ lv = .agg [.d (ints m.regs), di m.pc, .row 1, dv (.bool m.halted), dv (.bool m.waiting), dv (.bool m.rung), di m.done, .d (ints m.inp), .d (ints m.out)] ∧ m' = 2 ∧ hp1 = [(0, srcBox c q), (1, rowE m.csr)]) := by
  refine mutS_fn_of lv87 Try.func87 rfl rfl (by kernel_rfl) rfl ?_
  refine .inr ⟨rfl, use_mutS ⟨_, _, _, _, rfl, rfl, c_spec_l8Hart c hc p (by omega) (by omega), rfl, ?_⟩⟩
  rintro _ _ _ ⟨m, q, hd, hq1, hq2, rfl, rfl, rfl⟩
  refine ⟨rfl, ?_⟩
  obtain ⟨k, hk1, hk2, hk⟩ := nextE c hc q 20 (by omega) (by omega) (by omega)
  refine .inr ⟨rfl, use_mut ⟨_, _, _, _, _, _, rfl, rfl, hk, rfl, ?_⟩⟩
  have e1 := hd.regs
  have e2 := hd.csr
  have e3 := hd.inp
  have e4 := hd.out
  have sm : ∀ m' : HartM, m'.regs.length ≤ 16 → m'.csr.length ≤ 11 → m'.inp.length ≤ 41 → m'.out.length ≤ 40 → m'.small ∧ m'.few := fun m' a1 a2 a3 a4 => ⟨⟨by omega, by omega, by omega, by omega⟩, ⟨by omega, by omega, by omega, by omega⟩⟩
  have fz : ∀ {P Q : Prop}, P → Q → P ∧ Q := fun a b => ⟨a, b⟩
  refine bsplit_intro (fun hb => ?_) (fun hb => ?_)
  · refine ask_intro ⟨by omega, by show (0 : Int) < m.regs.length; omega⟩ ?_
    refine ask_intro (show 0 < m.regs.length by omega) ?_
    obtain ⟨s1, s2⟩ := sm { m with regs := m.regs.set 0 1 } (by simp <;> omega) (by simp <;> omega) (by simp <;> omega) (by simp <;> omega)
    refine ⟨_, _, _, [(1, 4130)], ⟨{ m with regs := m.regs.set 0 1 }, q + 1, s1, s2, by omega, by omega, e2, rfl, rfl, rfl⟩, chk_intro (by kernel_rfl) ⟨?_, tellHp_box rfl rfl ⟨DLe.refl _, rfl, trivial⟩ (tellHp_row rfl rfl rfl (fun j hj => rfl) tellHp_nil)⟩⟩
    exact ⟨⟨rfl, DLe.l (show m.regs.length = (m.regs.set 0 1).length by simp) (fun i hi => set_at (l := m.regs) (i := 0) rfl (by omega))⟩, rfl, rfl, rfl, rfl, rfl, rfl, ⟨rfl, DLe.refl _⟩, ⟨rfl, DLe.refl _⟩, trivial⟩
  refine bsplit_intro (fun hb => ?_) (fun hb => ?_)
  · refine ask_intro ⟨by omega, by show (1 : Int) ≤ m.regs.length; omega, by show (m.regs.length : Int) ≤ m.regs.length; omega, .inr (fun i hi => rfl)⟩ ?_
    obtain ⟨s1, s2⟩ := sm { m with regs := m.regs.drop 1 } (by simp <;> omega) (by simp <;> omega) (by simp <;> omega) (by simp <;> omega)
    refine ⟨_, _, _, [(1, 4130)], ⟨{ m with regs := m.regs.drop 1 }, q + 1, s1, s2, by omega, by omega, e2, rfl, rfl, rfl⟩, chk_intro (by kernel_rfl) ⟨?_, tellHp_box rfl rfl ⟨DLe.refl _, rfl, trivial⟩ (tellHp_row rfl rfl rfl (fun j hj => rfl) tellHp_nil)⟩⟩
    exact ⟨DLe.l (show ((m.regs.length : Int) - 1).toNat = (m.regs.drop 1).length by simp <;> omega) (fun i hi => drop_intsB m.regs 1 i), rfl, rfl, rfl, rfl, rfl, rfl, ⟨rfl, DLe.refl _⟩, ⟨rfl, DLe.refl _⟩, trivial⟩
  refine bsplit_intro (fun hb => ?_) (fun hb => ?_)
  · obtain ⟨j, hj1, hj2, hj⟩ := nextE c hc (q + 1) 11 (by omega) (by omega) (by omega)
    obtain ⟨v, _, hP⟩ := pickE c hc (q + 1 + 1) [-1, 4, 9, 4294967296] (by omega) (by omega) (by simp)
    obtain ⟨s1, s2⟩ := sm { m with csr := m.csr.set j.toNat v } (by simp <;> omega) (by simp <;> omega) (by simp <;> omega) (by simp <;> omega)
    refine .inr ⟨_, _, use_mut ⟨_, _, _, _, _, _, rfl, rfl, hj, rfl, ⟨rfl, rfl⟩⟩, ?_⟩
    refine .inr ⟨_, _, use_mut ⟨_, _, _, _, _, _, rfl, rfl, hP, rfl, ⟨rfl, rfl⟩⟩, ?_⟩
    refine ask_intro ⟨by omega, by show j < m.csr.length; omega⟩ ?_
    refine ask_intro (show j.toNat < m.csr.length by omega) ?_
    refine chk_intro (by kernel_rfl) ?_
    refine ⟨_, _, _, [(1, 4130)], ⟨{ m with csr := m.csr.set j.toNat v }, q + 1 + 1 + 1, s1, s2, by omega, by omega, (by show (m.csr.set j.toNat v).length = 11; rw [List.length_set]; exact e2), rfl, rfl, rfl⟩, chk_intro (by kernel_rfl) ⟨?_, tellHp_box rfl rfl ⟨DLe.refl _, rfl, trivial⟩ (tellHp_row rfl rfl (show m.csr.length = (m.csr.set j.toNat v).length by simp) (fun i hi => set_at (l := m.csr) (i := j.toNat) rfl (by omega)) tellHp_nil)⟩⟩
    exact ⟨⟨rfl, DLe.refl _⟩, rfl, rfl, rfl, rfl, rfl, rfl, ⟨rfl, DLe.refl _⟩, ⟨rfl, DLe.refl _⟩, trivial⟩
  refine bsplit_intro (fun hb => ?_) (fun hb => ?_)
  · obtain ⟨v, _, hP⟩ := pickE c hc (q + 1) [-1, 4294967296] (by omega) (by omega) (by simp)
    refine .inr ⟨rfl, use_mut ⟨_, _, _, _, _, _, rfl, rfl, hP, rfl, ?_⟩⟩
    obtain ⟨s1, s2⟩ := sm { m with pc := v } (by simp <;> omega) (by simp <;> omega) (by simp <;> omega) (by simp <;> omega)
    refine ⟨_, _, _, [(1, 4130)], ⟨{ m with pc := v }, q + 1 + 1, s1, s2, by omega, by omega, e2, rfl, rfl, rfl⟩, chk_intro (by kernel_rfl) ⟨?_, tellHp_box rfl rfl ⟨DLe.refl _, rfl, trivial⟩ (tellHp_row rfl rfl rfl (fun j hj => rfl) tellHp_nil)⟩⟩
    exact ⟨⟨rfl, DLe.refl _⟩, rfl, rfl, rfl, rfl, rfl, rfl, ⟨rfl, DLe.refl _⟩, ⟨rfl, DLe.refl _⟩, trivial⟩
  refine bsplit_intro (fun hb => ?_) (fun hb => ?_)
  · refine ask_intro ⟨rfl, by decide, by decide, by decide⟩ ?_
    obtain ⟨s1, s2⟩ := sm { m with inp := List.replicate 41 0 } (by simp <;> omega) (by simp <;> omega) (by simp) (by simp <;> omega)
    refine ⟨_, _, _, [(1, 4130)], ⟨{ m with inp := List.replicate 41 0 }, q + 1, s1, s2, by omega, by omega, e2, rfl, rfl, rfl⟩, chk_intro (by kernel_rfl) ⟨?_, tellHp_box rfl rfl ⟨DLe.refl _, rfl, trivial⟩ (tellHp_row rfl rfl rfl (fun j hj => rfl) tellHp_nil)⟩⟩
    exact ⟨⟨rfl, DLe.refl _⟩, rfl, rfl, rfl, rfl, rfl, rfl, ⟨rfl, DLe.l rfl (fun i hi => (rep_get 41 i).symm)⟩, ⟨rfl, DLe.refl _⟩, trivial⟩
  obtain ⟨s1, s2⟩ := sm m (by omega) (by omega) (by omega) (by omega)
  refine bsplit_intro (fun hb => ?_) (fun hb => ?_)
  · obtain ⟨v, _, hP⟩ := pickE c hc (q + 1) [-1, 1000000000, 1000000001] (by omega) (by omega) (by simp)
    refine .inr ⟨rfl, use_mut ⟨_, _, _, _, _, _, rfl, rfl, hP, rfl, ?_⟩⟩
    obtain ⟨s1, s2⟩ := sm { m with done := v } (by simp <;> omega) (by simp <;> omega) (by simp <;> omega) (by simp <;> omega)
    refine ⟨_, _, _, [(1, 4130)], ⟨{ m with done := v }, q + 1 + 1, s1, s2, by omega, by omega, e2, rfl, rfl, rfl⟩, chk_intro (by kernel_rfl) ⟨?_, tellHp_box rfl rfl ⟨DLe.refl _, rfl, trivial⟩ (tellHp_row rfl rfl rfl (fun j hj => rfl) tellHp_nil)⟩⟩
    exact ⟨⟨rfl, DLe.refl _⟩, rfl, rfl, rfl, rfl, rfl, rfl, ⟨rfl, DLe.refl _⟩, ⟨rfl, DLe.refl _⟩, trivial⟩
  · refine ⟨_, _, _, [(1, 4130)], ⟨m, q + 1, s1, s2, by omega, by omega, e2, rfl, rfl, rfl⟩, chk_intro (by kernel_rfl) ⟨?_, tellHp_box rfl rfl ⟨DLe.refl _, rfl, trivial⟩ (tellHp_row rfl rfl rfl (fun j hj => rfl) tellHp_nil)⟩⟩
    exact ⟨⟨rfl, DLe.refl _⟩, rfl, rfl, rfl, rfl, rfl, rfl, ⟨rfl, DLe.refl _⟩, ⟨rfl, DLe.refl _⟩, trivial⟩
end Go.Proofs.Ytfcekiehcchebaa.L

/- Policies: what the law functions compute on them (to, size, equality): contracts. -/
set_option linter.unusedVariables false
set_option linter.unusedSimpArgs false
set_option maxRecDepth 100000
namespace Go.Proofs.Ytfcekiehcchebaa.L
open Go.RowKit
structure LaneM where
  frm : Int
  to : Int
  page : Int
  af : Int
  at_ : Int
  deriving DecidableEq
abbrev laneD (p : LaneM) : List D := [dI p.frm, dI p.to, dI p.page, dI p.af, dI p.at_]
abbrev laneLV (p : LaneM) : LV := .agg [di p.frm, di p.to, di p.page, di p.af, di p.at_]
abbrev lanesF (l : List LaneM) (i : Nat) : List D := laneD (l.getD i ⟨0, 0, 0, 0, 0⟩)
abbrev lanes (l : List LaneM) : D := .l l.length (lanesF l)
structure BellM where
  frm : Int
  to : Int
  deriving DecidableEq
abbrev bellD (p : BellM) : List D := [dI p.frm, dI p.to]
abbrev bellLV (p : BellM) : LV := .agg [di p.frm, di p.to]
abbrev bellsF (l : List BellM) (i : Nat) : List D := bellD (l.getD i ⟨0, 0⟩)
abbrev bells (l : List BellM) : D := .l l.length (bellsF l)
structure SlotM where
  guest : Int
  steps : Int
  deriving DecidableEq
abbrev slotD (p : SlotM) : List D := [dI p.guest, dI p.steps]
abbrev slotLV (p : SlotM) : LV := .agg [di p.guest, di p.steps]
abbrev slotsF (l : List SlotM) (i : Nat) : List D := slotD (l.getD i ⟨0, 0⟩)
abbrev slots (l : List SlotM) : D := .l l.length (slotsF l)
end Go.Proofs.Ytfcekiehcchebaa.L

/- Policies: read, measured, compared: contracts. -/
set_option linter.unusedVariables false
set_option linter.unusedSimpArgs false
set_option maxRecDepth 100000
namespace Go.Proofs.Ytfcekiehcchebaa.L
open Go.RowKit
abbrev ownsF (l : List (List Int)) (i : Nat) : List D := [ints (l.getD i [])]
abbrev owns (l : List (List Int)) : D := .l l.length (ownsF l)
abbrev lenF (l : List (List Int)) (i : Nat) : Nat := (l.getD i []).length
abbrev inF (l : List (List Int)) (i j : Nat) : List D := intsF (l.getD i []) j
abbrev oOwns (l : List (List Int)) : RC := .ownn 22 2 1 l.length (lenF l) (inF l)
def sumN (l : List (List Int)) : Nat := (l.map List.length).sum
theorem sumN_take (l : List (List Int)) (i : Nat) (h : i < l.length) : sumN (l.take (i + 1)) = sumN (l.take i) + (l.getD i []).length := by
  unfold sumN
  rw [List.take_succ_eq_append_getElem h, List.map_append, List.sum_append, getD_at _ h]
  simp
theorem sumN_le (l : List (List Int)) (i : Nat) : sumN (l.take i) ≤ sumN l := by
  unfold sumN
  conv => rhs; rw [← List.take_append_drop i l, List.map_append, List.sum_append]
  omega
theorem sumN_get (l : List (List Int)) (i : Nat) (h : i < l.length) : (l.getD i []).length ≤ sumN l := by
  have := sumN_take l i h
  have := sumN_le l (i + 1)
  omega
def szO (l : List (List Int)) (q : Int) : Int := if q - (l.length + sumN l : Nat) < 0 then -1 else q - (l.length + sumN l : Nat)
/-! ## a policy -/
structure PolM where
  own : List (List Int)
  lns : List LaneM
  bls : List BellM
  pln : List SlotM
  deriving DecidableEq
abbrev polD (x : PolM) : List D := [owns x.own, lanes x.lns, bells x.bls, slots x.pln]
abbrev polLV (x : PolM) : LV := .agg [.d (owns x.own), .d (lanes x.lns), .d (bells x.bls), .d (slots x.pln)]
structure PolM.small (x : PolM) : Prop where
  own : x.own.length * 24 ≤ 140737488355328
  ins : ∀ i, i < x.own.length → (x.own.getD i []).length * 8 ≤ 140737488355328
  lns : x.lns.length * 40 ≤ 140737488355328
  bls : x.bls.length * 16 ≤ 140737488355328
  pln : x.pln.length * 16 ≤ 140737488355328
/-- how many things a policy has -/
def PolM.size (x : PolM) : Nat := x.own.length + sumN x.own + x.lns.length + x.bls.length + x.pln.length
def szP (x : PolM) (q : Int) : Int := if q - (x.size : Int) < 0 then -1 else q - (x.size : Int)
end Go.Proofs.Ytfcekiehcchebaa.L

/- What is wrong with a policy: the small functions: contracts. -/
set_option linter.unusedVariables false
set_option linter.unusedSimpArgs false
set_option maxRecDepth 100000
namespace Go.Proofs.Ytfcekiehcchebaa.L
open Go.RowKit
theorem beqc (v : Int) : (fun a : Int => v == a) = fun a => a == v := funext fun a => by
  by_cases h : v = a
  · subst h; rfl
  · rw [beq_eq_false_iff_ne.2 h, beq_eq_false_iff_ne.2 (Ne.symm h)]
abbrev hasI (l : List Int) (v : Int) : Bool := l.any fun a => a == v
theorem wrap1 {i n : Nat} (h : i < n) (hn : n ≤ 4611686018427387904) : IntKind.i64.wrap ((i : Int) + 1) = ((i + 1 : Nat) : Int) := wrap_i64 (i + 1) (by omega) (by omega)
theorem bellBeq (b : BellM) : (fun a : BellM => [b.frm, b.to] == [a.frm, a.to]) = fun a => a == b := funext fun a => by
  by_cases h : a = b
  · subst h; simp
  · rw [beq_eq_false_iff_ne.2 h]
    refine beq_eq_false_iff_ne.2 (fun e => h ?_)
    obtain ⟨a1, a2⟩ := a; obtain ⟨b1, b2⟩ := b
    simp only [List.cons.injEq, and_true] at e
    rw [e.1, e.2]
/-! ## guests, owners, ends -/
abbrev polP (x : PolM) : LV := .dptr (polD x)
def guestB (n : Nat) (g : Int) : Bool := inR g 0 ((n : Int) - 1)
theorem wrapm {n : Nat} (hn : n ≤ 4611686018427387904) : IntKind.i64.wrap ((n : Int) - 1) = (n : Int) - 1 := wrap_i64 _ (by omega) (by omega)
def ownerP (l : List (List Int)) (v : Int) : Int := idxG (fun r => hasI r v) l 0
def endsF (n : Nat) (a b : Int) : Int := bif !guestB n a || !guestB n b then 4 else bif a == b then 1 else 0
end Go.Proofs.Ytfcekiehcchebaa.L
