/- The law FnTraps answers true at every input that its statement lets in. -/
import Derived.Test.YtcllbnancmogfaaDoorLt
import Derived.Test.YtcllbnancmogfaaDoorLr
import Derived.Test.YtcllbnancmogfaaDoorLs
import Derived.Test.YtcllbnancmogfaaDoorLy
import Derived.Laws.Bits64
import Derived.Test.YtcllbnancmogfaaDoorRows
import Derived.Test.YtcllbnancmogfaaDoorCards
import Derived.Test.YtcllbnancmogfaaDoorTie
import Derived.SevenTiedAt
import Derived.LaidLaws
import Derived.Test.YtcllbnancmogfaaDoorMz
/- What the functions over words and rows of words compute: contracts, for rows that fit into memory. -/
set_option linter.unusedVariables false
set_option linter.unusedSimpArgs false
set_option maxRecDepth 100000
namespace Go.Proofs.YtcllbnancmogfaaDoor.L
open Go.RowKit
abbrev dv (v : Value) : LV := .d (.v v)
abbrev di (n : Int) : LV := .d (.v (.int .i64 n))
abbrev rb (b : Bool) : RV := .r (.one (.v (.bool b)))
abbrev ri (n : Int) : RV := .r (.one (.v (.int .i64 n)))
abbrev ints (l : List Int) : D := .l l.length fun i => [.v (.int .i64 (l.getD i 0))]

def inR (n a b : Int) : Bool := decide (a ≤ n) && decide (n ≤ b)
def isW (n : Int) : Bool := inR n 0 4294967295
theorem eqv {α : Type} {f : α → Value} {a b : α} (h : a = b) : f a = f b := by rw [h]

theorem c_impl_within (n a b : Int) : FnOK Tryd.prog 29 [di n, di a, di b] (rb (inR n a b)) := by
  refine fn_of lv29 Tryd.func29 rfl rfl rfl rfl ?_
  refine bsplit_intro (fun h => ?_) (fun h => ?_)
  · repeat' (first | refine bsplit_true ?_ | refine bsplit_false ?_)
    refine ⟨⟨congrArg Value.bool (?_ : decide (n ≤ b) = _), trivial⟩, rfl⟩
    simp at h; simp [inR, h]
  · repeat' (first | refine bsplit_true ?_ | refine bsplit_false ?_)
    refine ⟨⟨congrArg Value.bool (?_ : false = _), trivial⟩, rfl⟩
    simp at h; simp [inR]; omega
theorem c_spec_l1In (n a b : Int) : FnOK Tryd.prog 33 [di n, di a, di b] (rb (inR n a b)) := by
  refine fn_of lv33 Tryd.func33 rfl rfl rfl rfl ?_
  refine bsplit_intro (fun h => ?_) (fun h => ?_)
  · repeat' (first | refine bsplit_true ?_ | refine bsplit_false ?_)
    refine ⟨⟨congrArg Value.bool (?_ : decide (n ≤ b) = _), trivial⟩, rfl⟩
    simp at h; simp [inR, h]
  · repeat' (first | refine bsplit_true ?_ | refine bsplit_false ?_)
    refine ⟨⟨congrArg Value.bool (?_ : false = _), trivial⟩, rfl⟩
    simp at h; simp [inR]; omega

theorem c_impl_isWord (n : Int) : FnOK Tryd.prog 30 [di n] (rb (isW n)) := by
  refine fn_of lv30 Tryd.func30 rfl rfl rfl rfl ?_
  refine .inl ⟨_, _, rfl, c_impl_within _ _ _, rfl, ?_⟩
  exact ⟨⟨rfl, trivial⟩, rfl⟩
theorem c_spec_l8Word (n : Int) : FnOK Tryd.prog 34 [di n] (rb (isW n)) := by
  refine fn_of lv34 Tryd.func34 rfl rfl rfl rfl ?_
  refine .inl ⟨_, _, rfl, c_spec_l1In _ _ _, rfl, ?_⟩
  exact ⟨⟨rfl, trivial⟩, rfl⟩
theorem c_impl_areWords_1 (n : Int) : FnOK Tryd.prog 47 [di n] (rb (!isW n)) := by
  refine fn_of lv47 Tryd.func47 rfl rfl rfl rfl ?_
  refine .inl ⟨_, _, rfl, c_impl_isWord _, rfl, ?_⟩
  exact ⟨⟨rfl, trivial⟩, rfl⟩

theorem drop_all (l : List Int) (p : Int → Bool) (i : Nat) (h : i < l.length) : (l.drop i).all p = (p (l.getD i 0) && (l.drop (i + 1)).all p) := by
  rw [List.drop_eq_getElem_cons h, List.all_cons]
  simp [List.getD, List.getElem?_eq_getElem h]
theorem wrap_i64 (n : Int) (h1 : -9223372036854775808 ≤ n) (h2 : n < 9223372036854775808) : IntKind.i64.wrap n = n := by rw [IntKind.wrap_i64]; omega

theorem c_spec_l8All (l : List Int) (hl : l.length ≤ 9223372036854775807) : FnOK Tryd.prog 40 [.d (ints l)] (rb (l.all isW)) := by
  refine fn_of lv40 Tryd.func40 rfl rfl rfl rfl ?_
  refine ⟨{ i : Nat // i ≤ l.length ∧ (l.drop i).all isW = l.all isW }, fun i => ⟨frL [(0, .d (ints l)), (3, di i.1)], hpL [], 0, 0⟩, fun i => l.length - i.1, ⟨0, by simp⟩, le_of [] rfl rfl rfl rfl trivial (tellFr_d rfl (DLe.refl _) (tellFr_v rfl rfl trivial)), ?_⟩
  rintro ⟨i, hi, hall⟩
  refine bsplit_intro (fun h => ?_) (fun h => ?_)
  · have h : i < l.length := by simp at h; exact h
    refine ask_intro ⟨by omega, by simp; omega, rfl⟩ ?_
    refine .inl ⟨_, _, rfl, c_spec_l8Word _, rfl, ?_⟩
    refine bsplit_intro (fun h2 => ?_) (fun h2 => ?_)
    · refine ⟨⟨congrArg Value.bool (?_ : false = _), trivial⟩, rfl⟩
      have h2 : isW (l.getD i 0) = false := by simpa using h2
      rw [← hall, drop_all l isW i h, h2]; rfl
    · have h2 : isW (l.getD i 0) = true := by simpa using h2
      refine ⟨⟨i + 1, by omega, ?_⟩, le_of [] rfl rfl rfl rfl trivial (tellFr_d rfl (DLe.refl _) (tellFr_v rfl (congrArg (Value.int .i64) (?_ : IntKind.i64.wrap ((i : Int) + 1) = ((i + 1 : Nat) : Int))) trivial)), ?_⟩
      · rw [← hall, drop_all l isW i h, h2]; rfl
      · exact wrap_i64 (i + 1) (by omega) (by omega)
      · show l.length - (i + 1) < l.length - i
        omega
  · refine ⟨⟨congrArg Value.bool (?_ : true = _), trivial⟩, rfl⟩
    simp at h
    rw [← hall, List.drop_eq_nil_of_le h]; rfl
theorem c_laws_szInt64S (l : List Int) (q : Int) (hq : -9223372036854775808 ≤ q - l.length) (hq2 : q - l.length < 9223372036854775808) : FnOK Tryd.prog 19 [.d (ints l), di q] (ri (if q - l.length < 0 then -1 else q - l.length)) := by
  refine fn_of lv19 Tryd.func19 rfl rfl rfl rfl ?_
  refine bsplit_intro (fun h => ?_) (fun h => ?_)
  · refine ⟨⟨congrArg (Value.int .i64) (?_ : (-1 : Int) = _), trivial⟩, rfl⟩
    rw [wrap_i64 _ hq hq2] at h
    simp only [decide_eq_true_eq] at h
    rw [if_pos h]
  · refine ⟨⟨congrArg (Value.int .i64) (?_ : IntKind.i64.wrap (q - l.length) = _), trivial⟩, rfl⟩
    rw [wrap_i64 _ hq hq2] at h ⊢
    simp only [decide_eq_false_iff_not] at h
    rw [if_neg h]
theorem drop_any (l : List Int) (p : Int → Bool) (i : Nat) (h : i < l.length) : (l.drop i).any p = (p (l.getD i 0) || (l.drop (i + 1)).any p) := by
  rw [List.drop_eq_getElem_cons h, List.any_cons]
  simp [List.getD, List.getElem?_eq_getElem h]
def idxOf (l : List Int) (p : Int → Bool) (i : Nat) : Int := bif (l.drop i).any p then (((l.drop i).findIdx p + i : Nat) : Int) else -1
theorem idx_hit {l : List Int} {p : Int → Bool} {i : Nat} (h : i < l.length) (hp : p (l.getD i 0) = true) : idxOf l p i = i := by
  unfold idxOf
  rw [drop_any l p i h, hp, List.drop_eq_getElem_cons h]
  have : p l[i] = true := by simpa [List.getD, List.getElem?_eq_getElem h] using hp
  rw [List.findIdx_cons, this]
  simp
theorem idx_miss {l : List Int} {p : Int → Bool} {i : Nat} (h : i < l.length) (hp : p (l.getD i 0) = false) : idxOf l p i = idxOf l p (i + 1) := by
  unfold idxOf
  rw [drop_any l p i h, hp, Bool.false_or, List.drop_eq_getElem_cons h]
  have : p l[i] = false := by simpa [List.getD, List.getElem?_eq_getElem h] using hp
  cases (List.drop (i + 1) l).any p with
  | false => rfl
  | true =>
    simp only [cond_true, List.findIdx_cons, this, cond_false]
    omega
theorem idx_end {l : List Int} {p : Int → Bool} {i : Nat} (h : l.length ≤ i) : idxOf l p i = -1 := by
  unfold idxOf
  rw [List.drop_eq_nil_of_le h]; rfl

theorem c_slices_IndexFunc (g : Nat) (p : Int → Bool) (hg : ∀ n, FnOK Tryd.prog g [di n] (rb (p n))) (l : List Int) (hl : l.length ≤ 9223372036854775807) : FnOK Tryd.prog 52 [.d (ints l), .fn g []] (ri (idxOf l p 0)) := by
  refine fn_of lv52 Tryd.func52 rfl rfl rfl rfl ?_
  refine ⟨{ i : Nat // i ≤ l.length ∧ idxOf l p i = idxOf l p 0 }, fun i => ⟨frL [(0, .d (ints l)), (1, .fn g []), (7, di l.length), (8, di i.1)], hpL [], 0, 0⟩, fun i => l.length - i.1, ⟨0, by simp⟩,
    le_of [] rfl rfl rfl rfl trivial (tellFr_d rfl (DLe.refl _) (tellFr_fn rfl trivial (tellFr_v rfl rfl (tellFr_v rfl rfl trivial)))), ?_⟩
  rintro ⟨i, hi, hall⟩
  refine bsplit_intro (fun h => ?_) (fun h => ?_)
  · have h : i < l.length := by simp at h; exact h
    refine ask_intro ⟨by omega, by simp; omega, rfl⟩ ?_
    refine .inl ⟨_, _, rfl, hg _, rfl, ?_⟩
    refine bsplit_intro (fun h2 => ?_) (fun h2 => ?_)
    · refine ⟨⟨congrArg (Value.int .i64) (?_ : (i : Int) = _), trivial⟩, rfl⟩
      rw [← hall]; exact (idx_hit h h2).symm
    · refine ⟨⟨i + 1, by omega, ?_⟩, le_of [] rfl rfl rfl rfl trivial (tellFr_d rfl (DLe.refl _) (tellFr_fn rfl trivial (tellFr_v rfl rfl (tellFr_v rfl (congrArg (Value.int .i64) (?_ : IntKind.i64.wrap ((i : Int) + 1) = ((i + 1 : Nat) : Int))) trivial)))), ?_⟩
      · rw [← hall]; exact (idx_miss h h2).symm
      · exact wrap_i64 (i + 1) (by omega) (by omega)
      · show l.length - (i + 1) < l.length - i
        omega
  · refine ⟨⟨congrArg (Value.int .i64) (?_ : (-1 : Int) = _), trivial⟩, rfl⟩
    simp at h
    rw [← hall, idx_end h]
theorem c_slices_ContainsFunc (g : Nat) (p : Int → Bool) (hg : ∀ n, FnOK Tryd.prog g [di n] (rb (p n))) (l : List Int) (hl : l.length ≤ 9223372036854775807) : FnOK Tryd.prog 46 [.d (ints l), .fn g []] (rb (l.any p)) := by
  refine fn_of lv46 Tryd.func46 rfl rfl rfl rfl ?_
  refine .inl ⟨_, _, rfl, c_slices_IndexFunc g p hg _ hl, rfl, ?_⟩
  refine ⟨⟨congrArg Value.bool (?_ : decide (idxOf l p 0 ≥ 0) = _), trivial⟩, rfl⟩
  unfold idxOf
  rw [List.drop_zero]
  cases l.any p <;> simp
theorem c_impl_areWords (l : List Int) (hl : l.length ≤ 9223372036854775807) : FnOK Tryd.prog 38 [.d (ints l)] (rb (l.all isW)) := by
  refine fn_of lv38 Tryd.func38 rfl rfl rfl rfl ?_
  refine .inl ⟨_, _, rfl, c_slices_ContainsFunc 47 (fun n => !isW n) c_impl_areWords_1 _ hl, rfl, ?_⟩
  refine ⟨⟨congrArg Value.bool (?_ : (!(l.any fun n => !isW n)) = _), trivial⟩, rfl⟩
  rw [List.all_eq_not_any_not]
theorem c_slices_Clone (l : List Int) (hl : l.length * 8 ≤ 140737488355328) : FnOK Tryd.prog 45 [.d (ints l)] (.r (.one (.own 2 1 l.length fun i => [.v (.int .i64 (l.getD i 0))]))) := by
  refine fn_of lv45 Tryd.func45 rfl rfl rfl rfl ?_
  rintro r hr
  cases r with
  | true =>
    refine bsplit_true ?_
    have : l.length = 0 := by
      rcases Nat.eq_zero_or_pos l.length with h | h
      · exact h
      · exact absurd (hr h) (by simp)
    exact ⟨⟨⟨this, rfl⟩, trivial⟩, rfl⟩
  | false =>
    refine bsplit_false ?_
    refine ask_intro ⟨by show (0 + l.length) * 8 ≤ 140737488355328; omega, by omega, fun i hi => rfl⟩ ?_
    refine ⟨⟨⟨rfl, rfl, ?_, fun i hi => ⟨?_, rfl⟩⟩, trivial⟩, rfl⟩
    · exact Nat.zero_add _
    · rfl
abbrev intsF (l : List Int) (i : Nat) : List D := [.v (.int .i64 (l.getD i 0))]
abbrev oInts (l : List Int) : RC := .own 2 1 l.length (intsF l)
theorem c_laws_toInt64S (l : List Int) (hl : l.length * 8 ≤ 140737488355328) : FnOK Tryd.prog 22 [.d (ints l)] (.r (.one (oInts l))) := by
  refine fn_of lv22 Tryd.func22 rfl rfl rfl rfl ?_
  refine ask_intro ⟨rfl, by omega, by show (l.length : Int) * 8 ≤ 140737488355328; omega, by omega⟩ ?_
  refine ⟨{ i : Nat // i ≤ l.length }, fun i => ⟨frL [(0, .d (ints l)), (3, .row 96), (4, di i.1)], hpL [(96, .row 2 1 l.length fun j => if j < i.1 then intsF l j else [.v (.int .i64 0)])], 97, 0⟩, fun i => l.length - i.1, ⟨0, by omega⟩,
    le_of [(96, 4160)] rfl rfl rfl rfl (tellHp_row rfl rfl rfl (fun i hi => rfl) tellHp_nil) (tellFr_d rfl (DLe.refl _) (tellFr_row rfl rfl (tellFr_v rfl rfl trivial))), ?_⟩
  rintro ⟨i, hi⟩
  refine bsplit_intro (fun h => ?_) (fun h => ?_)
  · have h : i < l.length := by simp at h; exact h
    refine ask_intro ⟨by omega, by simp; omega, rfl⟩ ?_
    refine ask_intro ⟨by omega, by simp; omega⟩ ?_
    refine ask_intro (by show i < l.length; exact h) ?_
    refine ⟨⟨i + 1, by omega⟩, le_of [(96, 96)] rfl rfl rfl rfl (tellHp_row rfl rfl rfl (fun j hj => ?_) tellHp_nil) (tellFr_d rfl (DLe.refl _) (tellFr_row rfl rfl (tellFr_v rfl (congrArg (Value.int .i64) (?_ : IntKind.i64.wrap ((i : Int) + 1) = ((i + 1 : Nat) : Int))) trivial))), ?_⟩
    · show (if j = i then _ else if j < i then intsF l j else [.v (.int .i64 0)]) = if j < i + 1 then intsF l j else [.v (.int .i64 0)]
      by_cases h1 : j = i
      · subst h1
        rw [if_pos rfl, if_pos (by omega)]
        simp [splice, intsF]
      · rw [if_neg h1]
        by_cases h2 : j < i
        · rw [if_pos h2, if_pos (by omega)]
        · rw [if_neg h2, if_neg (by omega)]
    · exact wrap_i64 (i + 1) (by omega) (by omega)
    · show l.length - (i + 1) < l.length - i
      omega
  · simp at h
    refine ⟨⟨⟨rfl, rfl, rfl, fun j hj => ⟨?_, rfl⟩⟩, trivial⟩, rfl⟩
    show (if j < i then intsF l j else _) = _
    rw [if_pos (by omega)]
theorem drop_cons (l : List Int) (i : Nat) (h : i < l.length) : l.drop i = l.getD i 0 :: l.drop (i + 1) :=
  (List.drop_eq_getElem_cons h).trans (by rw [show l[i] = l.getD i 0 by simp [List.getD, List.getElem?_eq_getElem h]])
theorem c_laws_eqInt64S (l m : List Int) (hl : l.length ≤ 9223372036854775807) : FnOK Tryd.prog 24 [.d (ints l), .d (ints m)] (rb (l == m)) := by
  refine fn_of lv24 Tryd.func24 rfl rfl rfl rfl ?_
  refine bsplit_intro (fun h => ?_) (fun h => ?_)
  · refine ⟨⟨congrArg Value.bool (?_ : false = _), trivial⟩, rfl⟩
    simp at h
    symm
    rw [beq_eq_false_iff_ne]
    rintro rfl
    exact h rfl
  have hlen : l.length = m.length := by simp at h; omega
  refine ⟨{ i : Nat // i ≤ l.length ∧ (l.drop i == m.drop i) = (l == m) }, fun i => ⟨frL [(0, .d (ints l)), (1, .d (ints m)), (5, di i.1)], hpL [], 0, 0⟩, fun i => l.length - i.1, ⟨0, by simp⟩,
    le_of [] rfl rfl rfl rfl trivial (tellFr_d rfl (DLe.refl _) (tellFr_d rfl (DLe.refl _) (tellFr_v rfl rfl trivial))), ?_⟩
  rintro ⟨i, hi, hall⟩
  refine bsplit_intro (fun h => ?_) (fun h => ?_)
  · have h : i < l.length := by simp at h; exact h
    have hd : (l.drop i == m.drop i) = ((l.getD i 0 == m.getD i 0) && (l.drop (i + 1) == m.drop (i + 1))) := by
      rw [drop_cons l i h, drop_cons m i (by omega)]
      exact List.cons_beq_cons
    refine ask_intro ⟨by omega, by simp; omega, rfl⟩ ?_
    refine ask_intro ⟨by omega, by simp; omega, rfl⟩ ?_
    refine chk_intro rfl ?_
    refine bsplit_intro (fun h2 => ?_) (fun h2 => ?_)
    · refine ⟨⟨congrArg Value.bool (?_ : false = _), trivial⟩, rfl⟩
      have h2 : (l.getD i 0 != m.getD i 0) = true := h2
      rw [← hall, hd]
      have h2 : (l.getD i 0 == m.getD i 0) = false := by simpa [bne] using h2
      rw [h2]; rfl
    · have h2 : (l.getD i 0 != m.getD i 0) = false := h2
      refine ⟨⟨i + 1, by omega, ?_⟩, le_of [] rfl rfl rfl rfl trivial (tellFr_d rfl (DLe.refl _) (tellFr_d rfl (DLe.refl _) (tellFr_v rfl (congrArg (Value.int .i64) (?_ : IntKind.i64.wrap ((i : Int) + 1) = ((i + 1 : Nat) : Int))) trivial))), ?_⟩
      · rw [← hall, hd]
        have h2 : (l.getD i 0 == m.getD i 0) = true := by simpa [bne] using h2
        rw [h2]; rfl
      · exact wrap_i64 (i + 1) (by omega) (by omega)
      · show l.length - (i + 1) < l.length - i
        omega
  · refine ⟨⟨congrArg Value.bool (?_ : true = _), trivial⟩, rfl⟩
    simp at h
    rw [← hall, List.drop_eq_nil_of_le h, List.drop_eq_nil_of_le (by omega)]; rfl
end Go.Proofs.YtcllbnancmogfaaDoor.L

/- What the functions that look at a machine compute: contracts, for machines that fit into memory. -/
set_option linter.unusedVariables false
set_option linter.unusedSimpArgs false
set_option maxRecDepth 100000
namespace Go.Proofs.YtcllbnancmogfaaDoor.L
open Go.RowKit
structure HartM where
  regs : List Int
  pc : Int
  csr : List Int
  halted : Bool
  waiting : Bool
  rung : Bool
  done : Int
  inp : List Int
  out : List Int
  deriving DecidableEq
abbrev dI (n : Int) : D := .v (.int .i64 n)
abbrev dB (n : Bool) : D := .v (.bool n)
abbrev hartD (h : HartM) : List D := [ints h.regs, dI h.pc, ints h.csr, dB h.halted, dB h.waiting, dB h.rung, dI h.done, ints h.inp, ints h.out]
abbrev hartLV (h : HartM) : LV := .agg [.d (ints h.regs), di h.pc, .d (ints h.csr), dv (.bool h.halted), dv (.bool h.waiting), dv (.bool h.rung), di h.done, .d (ints h.inp), .d (ints h.out)]
abbrev hartR (h : HartM) : RV1 := .agg [oInts h.regs, .v (.int .i64 h.pc), oInts h.csr, .v (.bool h.halted), .v (.bool h.waiting), .v (.bool h.rung), .v (.int .i64 h.done), oInts h.inp, oInts h.out]

structure HartM.small (h : HartM) : Prop where
  regs : h.regs.length * 8 ≤ 140737488355328
  csr : h.csr.length * 8 ≤ 140737488355328
  inp : h.inp.length * 8 ≤ 140737488355328
  out : h.out.length * 8 ≤ 140737488355328

theorem c_laws_toHart (h : HartM) (hs : h.small) : FnOK Tryd.prog 7 [hartLV h] (.r (hartR h)) := by
  refine fn_of lv7 Tryd.func7 rfl rfl rfl rfl ?_
  refine .inl ⟨_, _, rfl, c_laws_toInt64S _ hs.regs, rfl, ?_⟩
  refine .inl ⟨_, _, rfl, c_laws_toInt64S _ hs.csr, rfl, ?_⟩
  refine .inl ⟨_, _, rfl, c_laws_toInt64S _ hs.inp, rfl, ?_⟩
  refine .inl ⟨_, _, rfl, c_laws_toInt64S _ hs.out, rfl, ?_⟩
  refine ⟨⟨?_, ?_, ?_, ?_, ?_, ?_, ?_, ?_, ?_, trivial⟩, rfl⟩
  · exact ⟨rfl, rfl, rfl, fun i hi => ⟨rfl, rfl⟩⟩
  · rfl
  · exact ⟨rfl, rfl, rfl, fun i hi => ⟨rfl, rfl⟩⟩
  · rfl
  · rfl
  · rfl
  · rfl
  · exact ⟨rfl, rfl, rfl, fun i hi => ⟨rfl, rfl⟩⟩
  · exact ⟨rfl, rfl, rfl, fun i hi => ⟨rfl, rfl⟩⟩
theorem HartM.small.lens {h : HartM} (hs : h.small) : h.regs.length ≤ 9223372036854775807 ∧ h.csr.length ≤ 9223372036854775807 ∧ h.inp.length ≤ 9223372036854775807 ∧ h.out.length ≤ 9223372036854775807 := by
  obtain ⟨h1, h2, h3, h4⟩ := hs
  omega

def hFault (h : HartM) : Int :=
  bif ((h.regs.length : Int) != 16) || (((h.csr.length : Int) != 11) || (h.regs.getD 0 0 != 0)) then 1 else
  bif !(h.regs.all isW) || (!(isW h.pc) || (!(h.csr.all isW) || (!(h.inp.all isW) || !(h.out.all isW)))) then 3 else
  bif decide ((h.inp.length : Int) > 40) || decide ((h.out.length : Int) > 40) then 2 else
  bif !(inR h.done 0 1000000000) then 3 else
  bif decide (h.csr.getD 0 0 > 3) || (decide (h.csr.getD 7 0 > 7) || (decide (h.csr.getD 10 0 > 8) || ((h.csr.getD 6 0 != 0) || (h.csr.getD 8 0 != 0)))) then 1 else 0

theorem c_spec_l8Fault (m : HartM) (hs : m.small) : FnOK Tryd.prog 20 [.dptr (hartD m)] (ri (hFault m)) := by
  obtain ⟨q1, q2, q3, q4⟩ := hs.lens
  refine fn_of lv20 Tryd.func20 rfl rfl rfl rfl ?_
  refine bsplit_intro (fun h1 => ?_) (fun h1 => ?_)
  · repeat' (first | refine bsplit_true ?_ | refine bsplit_false ?_)
    refine ⟨⟨congrArg (Value.int .i64) (?_ : (1 : Int) = _), trivial⟩, rfl⟩
    simp only [hFault, h1, Bool.true_or, cond_true]
  repeat' (first | refine bsplit_true ?_ | refine bsplit_false ?_)
  refine bsplit_intro (fun h2 => ?_) (fun h2 => ?_)
  · repeat' (first | refine bsplit_true ?_ | refine bsplit_false ?_)
    refine ⟨⟨congrArg (Value.int .i64) (?_ : (1 : Int) = _), trivial⟩, rfl⟩
    simp only [hFault, h1, h2, Bool.true_or, Bool.or_true, cond_true]
  have e1 : m.regs.length = 16 := by simp at h1; omega
  have e2 : m.csr.length = 11 := by simp at h2; omega
  repeat' (first | refine bsplit_true ?_ | refine bsplit_false ?_)
  refine ask_intro ⟨by omega, by show (0 : Int) < m.regs.length; omega, rfl⟩ ?_
  repeat' (first | refine bsplit_true ?_ | refine bsplit_false ?_)
  refine bsplit_intro (fun h3 => ?_) (fun h3 => ?_)
  · refine ⟨⟨congrArg (Value.int .i64) (?_ : (1 : Int) = _), trivial⟩, rfl⟩
    have h3 : (m.regs.getD 0 0 != 0) = true := h3
    simp only [hFault, h3, Bool.true_or, Bool.or_true, cond_true]
  have h3 : (m.regs.getD 0 0 != 0) = false := h3
  all_goals repeat' (first | refine bsplit_true ?_ | refine bsplit_false ?_ | refine .inl ⟨_, _, rfl, c_spec_l8All _ (by assumption), rfl, ?_⟩ | refine .inl ⟨_, _, rfl, c_spec_l8Word _, rfl, ?_⟩ | refine .inl ⟨_, _, rfl, c_spec_l1In _ _ _, rfl, ?_⟩ | refine bsplit_intro (fun h => ?_) (fun h => ?_) | refine ask_intro ⟨by omega, by show (_ : Int) < m.csr.length; omega, rfl⟩ ?_)
  all_goals refine ⟨⟨congrArg (Value.int .i64) ?_, trivial⟩, rfl⟩
  all_goals clear e1 e2
  all_goals simp only [Int.reduceToNat] at *
  all_goals simp only [hFault, *, Bool.true_or, Bool.or_true, Bool.false_or, Bool.or_self, cond_true, cond_false]
theorem c_impl_HartFault (m : HartM) (hs : m.small) : FnOK Tryd.prog 16 [hartLV m] (ri (hFault m)) := by
  obtain ⟨q1, q2, q3, q4⟩ := hs.lens
  refine fn_of lv16 Tryd.func16 rfl rfl rfl rfl ?_
  refine bsplit_intro (fun h1 => ?_) (fun h1 => ?_)
  · repeat' (first | refine bsplit_true ?_ | refine bsplit_false ?_)
    refine ⟨⟨congrArg (Value.int .i64) (?_ : (1 : Int) = _), trivial⟩, rfl⟩
    simp only [hFault, h1, Bool.true_or, cond_true]
  repeat' (first | refine bsplit_true ?_ | refine bsplit_false ?_)
  refine bsplit_intro (fun h2 => ?_) (fun h2 => ?_)
  · repeat' (first | refine bsplit_true ?_ | refine bsplit_false ?_)
    refine ⟨⟨congrArg (Value.int .i64) (?_ : (1 : Int) = _), trivial⟩, rfl⟩
    simp only [hFault, h1, h2, Bool.true_or, Bool.or_true, cond_true]
  have e1 : m.regs.length = 16 := by simp at h1; omega
  have e2 : m.csr.length = 11 := by simp at h2; omega
  repeat' (first | refine bsplit_true ?_ | refine bsplit_false ?_)
  refine ask_intro ⟨by omega, by show (0 : Int) < m.regs.length; omega, rfl⟩ ?_
  repeat' (first | refine bsplit_true ?_ | refine bsplit_false ?_)
  refine bsplit_intro (fun h3 => ?_) (fun h3 => ?_)
  · repeat' (first | refine bsplit_true ?_ | refine bsplit_false ?_)
    refine ⟨⟨congrArg (Value.int .i64) (?_ : (1 : Int) = _), trivial⟩, rfl⟩
    have h3 : (m.regs.getD 0 0 != 0) = true := h3
    simp only [hFault, h3, Bool.true_or, Bool.or_true, cond_true]
  have h3 : (m.regs.getD 0 0 != 0) = false := h3
  all_goals repeat' (first | refine bsplit_true ?_ | refine bsplit_false ?_ | refine .inl ⟨_, _, rfl, c_impl_areWords _ (by assumption), rfl, ?_⟩ | refine .inl ⟨_, _, rfl, c_impl_isWord _, rfl, ?_⟩ | refine .inl ⟨_, _, rfl, c_impl_within _ _ _, rfl, ?_⟩ | refine bsplit_intro (fun h => ?_) (fun h => ?_) | refine ask_intro ⟨by omega, by show (_ : Int) < m.csr.length; omega, rfl⟩ ?_)
  all_goals refine ⟨⟨congrArg (Value.int .i64) ?_, trivial⟩, rfl⟩
  all_goals clear e1 e2
  all_goals simp only [Int.reduceToNat] at *
  all_goals simp only [hFault, *, Bool.true_or, Bool.or_true, Bool.false_or, Bool.or_self, cond_true, cond_false]

def hSz (m : HartM) (q : Int) : Int :=
  let q1 := q - m.regs.length
  let q2 := q1 - m.csr.length
  let q3 := q2 - m.inp.length
  let q4 := q3 - m.out.length
  if q1 < 0 ∨ q2 < 0 ∨ q3 < 0 ∨ q4 < 0 then -1 else q4
theorem c_laws_szInt64Sn (l : List Int) (q : Int) (hq : -9223372036854775808 ≤ q - l.length) (h : q - l.length < 0) : FnOK Tryd.prog 19 [.d (ints l), di q] (ri (-1)) := by
  have := c_laws_szInt64S l q hq (by omega)
  rwa [if_pos h] at this
theorem c_laws_szInt64Sp (l : List Int) (q : Int) (hq : q - l.length < 9223372036854775808) (h : ¬ q - l.length < 0) : FnOK Tryd.prog 19 [.d (ints l), di q] (ri (q - l.length)) := by
  have := c_laws_szInt64S l q (by omega) hq
  rwa [if_neg h] at this
theorem c_laws_szHart (m : HartM) (hs : m.small) (q : Int) (hq : 0 ≤ q) (hq2 : q ≤ 1048576) : FnOK Tryd.prog 5 [hartLV m, di q] (ri (hSz m q)) := by
  obtain ⟨l1, l2, l3, l4⟩ := hs.lens
  refine fn_of lv5 Tryd.func5 rfl rfl rfl rfl ?_
  unfold hSz
  by_cases h1 : q - m.regs.length < 0
  · refine .inl ⟨_, _, rfl, c_laws_szInt64Sn _ q (by omega) h1, rfl, ?_⟩
    repeat' (first | refine bsplit_true ?_ | refine bsplit_false ?_)
    exact ⟨⟨congrArg (Value.int .i64) (if_pos (.inl h1)).symm, trivial⟩, rfl⟩
  refine .inl ⟨_, _, rfl, c_laws_szInt64Sp _ q (by omega) h1, rfl, bsplit_of_false (decide_eq_false h1) ?_⟩
  by_cases h2 : q - m.regs.length - m.csr.length < 0
  · refine .inl ⟨_, _, rfl, c_laws_szInt64Sn _ _ (by omega) h2, rfl, ?_⟩
    repeat' (first | refine bsplit_true ?_ | refine bsplit_false ?_)
    exact ⟨⟨congrArg (Value.int .i64) (if_pos (.inr (.inl h2))).symm, trivial⟩, rfl⟩
  refine .inl ⟨_, _, rfl, c_laws_szInt64Sp _ _ (by omega) h2, rfl, bsplit_of_false (decide_eq_false h2) ?_⟩
  by_cases h3 : q - m.regs.length - m.csr.length - m.inp.length < 0
  · refine .inl ⟨_, _, rfl, c_laws_szInt64Sn _ _ (by omega) h3, rfl, ?_⟩
    repeat' (first | refine bsplit_true ?_ | refine bsplit_false ?_)
    exact ⟨⟨congrArg (Value.int .i64) (if_pos (.inr (.inr (.inl h3)))).symm, trivial⟩, rfl⟩
  refine .inl ⟨_, _, rfl, c_laws_szInt64Sp _ _ (by omega) h3, rfl, bsplit_of_false (decide_eq_false h3) ?_⟩
  by_cases h4 : q - m.regs.length - m.csr.length - m.inp.length - m.out.length < 0
  · refine .inl ⟨_, _, rfl, c_laws_szInt64Sn _ _ (by omega) h4, rfl, ?_⟩
    repeat' (first | refine bsplit_true ?_ | refine bsplit_false ?_)
    exact ⟨⟨congrArg (Value.int .i64) (if_pos (.inr (.inr (.inr h4)))).symm, trivial⟩, rfl⟩
  refine .inl ⟨_, _, rfl, c_laws_szInt64Sp _ _ (by omega) h4, rfl, bsplit_of_false (decide_eq_false h4) ?_⟩
  exact ⟨⟨congrArg (Value.int .i64) (if_neg (by rintro (h | h | h | h) <;> contradiction)).symm, trivial⟩, rfl⟩

theorem c_laws_eqHart (m n : HartM) (hs : m.small) : FnOK Tryd.prog 10 [hartLV m, hartLV n] (rb (decide (m = n))) := by
  obtain ⟨l1, l2, l3, l4⟩ := hs.lens
  refine fn_of lv10 Tryd.func10 rfl rfl rfl rfl ?_
  repeat' (first | refine bsplit_true ?_ | refine bsplit_false ?_ | refine .inl ⟨_, _, rfl, c_laws_eqInt64S _ _ (by assumption), rfl, ?_⟩ | refine bsplit_intro (fun h => ?_) (fun h => ?_))
  all_goals refine ⟨⟨congrArg Value.bool ?_, trivial⟩, rfl⟩
  all_goals (obtain ⟨a1, a2, a3, a4, a5, a6, a7, a8, a9⟩ := m; obtain ⟨b1, b2, b3, b4, b5, b6, b7, b8, b9⟩ := n; simp_all)

end Go.Proofs.YtcllbnancmogfaaDoor.L

/- How a machine, a word, a row of words that a law is handed is read: as data, of a size that a process can hold. -/
set_option linter.unusedVariables false
set_option linter.unusedSimpArgs false
set_option maxRecDepth 100000
namespace Go.Proofs.YtcllbnancmogfaaDoor.L
open Go.RowKit Go.ChangeShapes Go.WideShapes Go.ChangeAt

theorem own : ownKnob Tryd.prog.godebug = none := by kernel_rfl
theorem laidOut : laidOutB Tryd.prog = true := by kernel_rfl
theorem reach_eq : reachBytes = 140737488351232 := by decide
abbrev ok64 (n : Int) : Prop := (Lit.int .i64 n).wf = true
theorem ok64_le {n : Int} (h : ok64 n) : -9223372036854775808 ≤ n ∧ n ≤ 9223372036854775807 := by
  have h' : IntKind.i64.min ≤ n ∧ n ≤ 9223372036854775807 := by simpa [ok64, Lit.wf] using h
  have e : IntKind.i64.min = -9223372036854775808 := by decide
  rw [e] at h'
  exact h'
abbrev okInts (l : List Int) : Prop := l.length * 8 ≤ reachBytes ∧ ∀ x ∈ l, ok64 x

theorem reads_int64 : ReadsT Tryd.prog 2 1 Int (fun n => [.v (.int .i64 n)]) ok64 := ReadsT.int Tryd.underlying2 (by kernel_rfl)
theorem reads_bool : ReadsT Tryd.prog 4 1 Bool (fun n => [.v (.bool n)]) (fun _ => True) := ReadsT.bool Tryd.underlying4 (by kernel_rfl)
theorem reads_ints : ReadsT Tryd.prog 22 1 (List Int) (fun l => [ints l]) okInts := ReadsT.slice reads_int64 Tryd.underlying22 (by kernel_rfl) (by decide) 0 (by kernel_rfl)
structure HartM.ok (h : HartM) : Prop where
  small : h.small
  pc : ok64 h.pc
  done : ok64 h.done
  regs : okInts h.regs
  csr : okInts h.csr
  inp : okInts h.inp
  out : okInts h.out
theorem reads_Hart : ReadsT Tryd.prog 24 9 HartM hartD HartM.ok := by
  refine (ReadsT.struct (ok := _) Tryd.underlying24 (by kernel_rfl) (ReadsL.cons reads_ints (.cons reads_int64 (.cons reads_ints (.cons reads_bool (.cons reads_bool (.cons reads_bool (.cons reads_int64 (.cons reads_ints (.cons reads_ints (.nil 9))))))))))).map (fun m => ⟨m.1, m.2.1, m.2.2.1, m.2.2.2.1, m.2.2.2.2.1, m.2.2.2.2.2.1, m.2.2.2.2.2.2.1, m.2.2.2.2.2.2.2.1, m.2.2.2.2.2.2.2.2.1⟩) ?_
  rintro ⟨m1, m2, m3, m4, m5, m6, m7, m8, m9, _⟩ ⟨h1, h2, h3, h4, h5, h6, h7, h8, h9, _⟩
  have e := reach_eq
  have a1 : m1.length * 8 ≤ reachBytes := h1.1
  have a2 : m3.length * 8 ≤ reachBytes := h3.1
  have a3 : m8.length * 8 ≤ reachBytes := h8.1
  have a4 : m9.length * 8 ≤ reachBytes := h9.1
  exact ⟨⟨⟨by show m1.length * 8 ≤ _; omega, by show m3.length * 8 ≤ _; omega, by show m8.length * 8 ≤ _; omega, by show m9.length * 8 ≤ _; omega⟩, h2, h7, h1, h3, h8, h9⟩, rfl⟩
end Go.Proofs.YtcllbnancmogfaaDoor.L

/- What the functions that ask a machine compute: contracts. -/
set_option linter.unusedVariables false
set_option linter.unusedSimpArgs false
set_option maxRecDepth 100000
namespace Go.Proofs.YtcllbnancmogfaaDoor.L
open Go.RowKit
abbrev irR (p : Int × Int) : RV1 := .agg [.v (.int .i64 p.1), .v (.int .i64 p.2)]
abbrev irLV (p : Int × Int) : LV := .agg [di p.1, di p.2]

theorem hFault_zero {m : HartM} (h : hFault m = 0) : m.regs.length = 16 ∧ m.csr.length = 11 ∧ m.inp.length ≤ 40 ∧ m.out.length ≤ 40 := by
  unfold hFault at h
  cases h1 : (((m.regs.length : Int) != 16) || (((m.csr.length : Int) != 11) || (m.regs.getD 0 0 != 0))) with
  | true => rw [h1] at h; simp at h
  | false =>
    rw [h1, cond_false] at h
    cases h0 : !m.regs.all isW || (!isW m.pc || (!m.csr.all isW || (!m.inp.all isW || !m.out.all isW))) with
    | true => rw [h0] at h; simp at h
    | false =>
    rw [h0, cond_false] at h
    cases h2 : decide ((m.inp.length : Int) > 40) || decide ((m.out.length : Int) > 40) with
    | true => rw [h2] at h; simp at h
    | false =>
      simp at h1 h2
      omega
theorem fault_ne {m : HartM} (h : (hFault m != 0) = false) : hFault m = 0 := by simpa using h

theorem c_laws_eqIntResult (p q : Int × Int) : FnOK Tryd.prog 9 [irLV p, irLV q] (rb (decide (p = q))) := by
  refine fn_of lv9 Tryd.func9 rfl rfl (by kernel_rfl) rfl ?_
  repeat' (first | refine bsplit_true ?_ | refine bsplit_false ?_ | refine bsplit_intro (fun h => ?_) (fun h => ?_))
  all_goals refine ⟨⟨congrArg Value.bool ?_, trivial⟩, rfl⟩
  all_goals (obtain ⟨a1, a2⟩ := p; obtain ⟨b1, b2⟩ := q; simp_all)

def pend (m : HartM) : Int := (if m.csr.getD 9 0 ≠ 0 ∧ m.done ≥ m.csr.getD 9 0 then 1 else 0) + (if m.rung = true then 2 else 0) + (if 0 < m.inp.length then 4 else 0)
def pendingOf (m : HartM) : Int × Int := if hFault m = 0 then (0, pend m) else (hFault m, 0)
theorem c_spec_l8Pending (m : HartM) (hc : m.csr.length = 11) : FnOK Tryd.prog 41 [.dptr (hartD m)] (ri (pend m)) := by
  refine fn_of lv41 Tryd.func41 rfl rfl (by kernel_rfl) rfl ?_
  refine ask_intro ⟨by omega, by show (9 : Int) < m.csr.length; omega, rfl⟩ ?_
  have fin : ∀ (a b c : Bool), (m.csr.getD 9 0 != 0) = a → (a = true → decide (m.done ≥ m.csr.getD 9 0) = b) → (a = false → b = false) → decide ((m.inp.length : Int) > 0) = c → pend m = (bif b then 1 else 0) + (bif m.rung then 2 else 0) + (bif c then 4 else 0) := by
    intro a b c h1 h2 h3 h4
    subst h1 h4
    unfold pend
    generalize m.csr.getD 9 0 = z at *
    by_cases e : z = 0
    · have := h3 (by simp [e])
      subst this
      cases m.rung <;> simp [e]
    · have := h2 (by simp [e])
      subst this
      by_cases e2 : m.done ≥ z <;> cases m.rung <;> simp [e, e2]
  refine bsplit_intro (fun h1 => ?_) (fun h1 => ?_)
  · repeat' (first | refine bsplit_true ?_ | refine bsplit_false ?_)
    refine ask_intro ⟨by omega, by show (9 : Int) < m.csr.length; omega, rfl⟩ ?_
    repeat' (first | refine bsplit_true ?_ | refine bsplit_false ?_)
    refine chk_intro (by kernel_rfl) ?_
    refine bsplit_intro (fun h2 => ?_) (fun h2 => ?_)
    all_goals
      cases hr : m.rung
      all_goals
        repeat' (first | refine bsplit_true ?_ | refine bsplit_false ?_)
        refine bsplit_intro (fun h4 => ?_) (fun h4 => ?_)
        all_goals
          refine ⟨⟨congrArg (Value.int .i64) ?_, trivial⟩, rfl⟩
          rw [fin _ _ _ h1 (fun _ => h2) (fun h => by simp at h) h4, hr]
          first | rfl | decide
  · repeat' (first | refine bsplit_true ?_ | refine bsplit_false ?_)
    refine chk_intro (by kernel_rfl) ?_
    repeat' (first | refine bsplit_true ?_ | refine bsplit_false ?_)
    cases hr : m.rung
    all_goals
      repeat' (first | refine bsplit_true ?_ | refine bsplit_false ?_)
      refine bsplit_intro (fun h4 => ?_) (fun h4 => ?_)
      all_goals
        refine ⟨⟨congrArg (Value.int .i64) ?_, trivial⟩, rfl⟩
        rw [fin _ false _ h1 (fun h => by simp at h) (fun _ => rfl) h4, hr]
        first | rfl | decide
theorem c_impl_Hart_pending (m : HartM) (hc : m.csr.length = 11) : FnOK Tryd.prog 42 [.dptr (hartD m)] (ri (pend m)) := by
  refine fn_of lv42 Tryd.func42 rfl rfl (by kernel_rfl) rfl ?_
  refine ask_intro ⟨by omega, by show (9 : Int) < m.csr.length; omega, rfl⟩ ?_
  have fin : ∀ (a b c : Bool), (m.csr.getD 9 0 != 0) = a → (a = true → decide (m.done ≥ m.csr.getD 9 0) = b) → (a = false → b = false) → decide ((m.inp.length : Int) > 0) = c → pend m = (bif b then 1 else 0) + (bif m.rung then 2 else 0) + (bif c then 4 else 0) := by
    intro a b c h1 h2 h3 h4
    subst h1 h4
    unfold pend
    generalize m.csr.getD 9 0 = z at *
    by_cases e : z = 0
    · have := h3 (by simp [e])
      subst this
      cases m.rung <;> simp [e]
    · have := h2 (by simp [e])
      subst this
      by_cases e2 : m.done ≥ z <;> cases m.rung <;> simp [e, e2]
  refine bsplit_intro (fun h1 => ?_) (fun h1 => ?_)
  · repeat' (first | refine bsplit_true ?_ | refine bsplit_false ?_)
    refine ask_intro ⟨by omega, by show (9 : Int) < m.csr.length; omega, rfl⟩ ?_
    repeat' (first | refine bsplit_true ?_ | refine bsplit_false ?_)
    refine chk_intro (by kernel_rfl) ?_
    refine bsplit_intro (fun h2 => ?_) (fun h2 => ?_)
    all_goals
      cases hr : m.rung
      all_goals
        repeat' (first | refine bsplit_true ?_ | refine bsplit_false ?_)
        refine bsplit_intro (fun h4 => ?_) (fun h4 => ?_)
        all_goals
          refine ⟨⟨congrArg (Value.int .i64) ?_, trivial⟩, rfl⟩
          rw [fin _ _ _ h1 (fun _ => h2) (fun h => by simp at h) h4, hr]
          first | rfl | decide
  · repeat' (first | refine bsplit_true ?_ | refine bsplit_false ?_)
    refine chk_intro (by kernel_rfl) ?_
    repeat' (first | refine bsplit_true ?_ | refine bsplit_false ?_)
    cases hr : m.rung
    all_goals
      repeat' (first | refine bsplit_true ?_ | refine bsplit_false ?_)
      refine bsplit_intro (fun h4 => ?_) (fun h4 => ?_)
      all_goals
        refine ⟨⟨congrArg (Value.int .i64) ?_, trivial⟩, rfl⟩
        rw [fin _ false _ h1 (fun h => by simp at h) (fun _ => rfl) h4, hr]
        first | rfl | decide
def csrOf (m : HartM) (k : Int) : Int := if k = 6 then pend m else if k = 8 then m.done else m.csr.getD k.toNat 0
def getCsr (m : HartM) (k : Int) : Int × Int := if hFault m = 0 then (if inR k 0 10 = true then (0, csrOf m k) else (3, 0)) else (hFault m, 0)
theorem inR_iff {n a b : Int} : inR n a b = true ↔ a ≤ n ∧ n ≤ b := by simp [inR]
theorem c_impl_Hart_get (m : HartM) (hc : m.csr.length = 11) (k : Int) (hk : inR k 0 10 = true) : FnOK Tryd.prog 39 [.dptr (hartD m), di k] (ri (csrOf m k)) := by
  rw [inR_iff] at hk
  refine fn_of lv39 Tryd.func39 rfl rfl (by kernel_rfl) rfl ?_
  refine bsplit_intro (fun h => ?_) (fun h => ?_)
  · have h : k = 6 := by simpa using h
    refine .inl ⟨_, _, rfl, c_impl_Hart_pending m hc, rfl, ?_⟩
    refine ⟨⟨congrArg (Value.int .i64) ?_, trivial⟩, rfl⟩
    unfold csrOf
    rw [if_pos h]
  have h : ¬ k = 6 := by simpa using h
  refine bsplit_intro (fun h2 => ?_) (fun h2 => ?_)
  · have h2 : k = 8 := by simpa using h2
    refine ⟨⟨congrArg (Value.int .i64) ?_, trivial⟩, rfl⟩
    unfold csrOf
    rw [if_neg h, if_pos h2]
  have h2 : ¬ k = 8 := by simpa using h2
  refine ask_intro ⟨by omega, by show k < m.csr.length; omega, rfl⟩ ?_
  refine ⟨⟨congrArg (Value.int .i64) ?_, trivial⟩, rfl⟩
  unfold csrOf
  rw [if_neg h, if_neg h2]
theorem c_impl_GetCsr (m : HartM) (hs : m.small) (k : Int) : FnOK Tryd.prog 18 [hartLV m, di k] (.r (irR (getCsr m k))) := by
  refine fn_of lv18 Tryd.func18 rfl rfl (by kernel_rfl) rfl ?_
  refine .inl ⟨_, _, rfl, c_impl_HartFault m hs, rfl, ?_⟩
  unfold getCsr
  refine bsplit_intro (fun h => ?_) (fun h => ?_)
  · have h : ¬ hFault m = 0 := by simpa using h
    rw [if_neg h]
    exact ⟨⟨rfl, rfl, trivial⟩, rfl⟩
  have h := fault_ne h
  rw [if_pos h]
  refine .inl ⟨_, _, rfl, c_impl_within k 0 10, rfl, ?_⟩
  refine bsplit_intro (fun h2 => ?_) (fun h2 => ?_)
  · have h2 : inR k 0 10 = false := by simpa using h2
    rw [h2]
    exact ⟨⟨rfl, rfl, trivial⟩, rfl⟩
  have h2 : inR k 0 10 = true := by simpa using h2
  rw [if_pos h2]
  refine .inl ⟨_, _, rfl, c_impl_Hart_get m (hFault_zero h).2.1 k h2, rfl, ?_⟩
  exact ⟨⟨rfl, rfl, trivial⟩, rfl⟩
end Go.Proofs.YtcllbnancmogfaaDoor.L

/- The law functions over a machine's pending bits and numbers answer true. -/
set_option linter.unusedVariables false
set_option linter.unusedSimpArgs false
set_option maxRecDepth 100000
namespace Go.Proofs.YtcllbnancmogfaaDoor.L
open Go.RowKit
end Go.Proofs.YtcllbnancmogfaaDoor.L

/- What the functions compute that mark what a result owns, and look whether it is held: contracts. -/
set_option linter.unusedVariables false
set_option linter.unusedSimpArgs false
set_option maxRecDepth 100000
namespace Go.Proofs.YtcllbnancmogfaaDoor.L
open Go.RowKit
/-- the numbers from k on -/
def markL (k : Int) (n : Nat) : List Int := (List.range n).map fun (i : Nat) => k + (i : Int)
theorem markL_len (k : Int) (n : Nat) : (markL k n).length = n := by simp [markL]
theorem markL_get (k : Int) (n i : Nat) (h : i < n) : (markL k n).getD i 0 = k + i := by simp [markL, List.getD, h]
abbrev rowE (l : List Int) : Ent := .row 2 1 l.length (intsF l)

abbrev hartK (m : HartM) (a b c d : Nat) : List LV := [.row a, di m.pc, .row b, dv (.bool m.halted), dv (.bool m.waiting), dv (.bool m.rung), di m.done, .row c, .row d]
abbrev rowM (l : List Int) (k : Int) : Ent := .row 2 1 l.length (intsF (markL k l.length))
abbrev datM (l : List Int) (k : Int) : LV := .d (.l l.length (intsF (markL k l.length)))
structure HartM.few (m : HartM) : Prop where
  regs : m.regs.length ≤ 1048576
  csr : m.csr.length ≤ 1048576
  inp : m.inp.length ≤ 1048576
  out : m.out.length ≤ 1048576
def hLen (m : HartM) : Int := m.regs.length + m.csr.length + m.inp.length + m.out.length
abbrev hK1 (m : HartM) (k : Int) : Int := k + m.regs.length
abbrev hK2 (m : HartM) (k : Int) : Int := hK1 m k + m.csr.length
abbrev hK3 (m : HartM) (k : Int) : Int := hK2 m k + m.inp.length
abbrev hK4 (m : HartM) (k : Int) : Int := hK3 m k + m.out.length
abbrev hMarks (m : HartM) (k : Int) : List (Nat × Ent) := [(0, rowM m.regs k), (1, rowM m.csr (hK1 m k)), (2, rowM m.inp (hK2 m k)), (3, rowM m.out (hK3 m k))]
abbrev hRows (m : HartM) : List (Nat × Ent) := [(0, rowE m.regs), (1, rowE m.csr), (2, rowE m.inp), (3, rowE m.out)]

theorem hK_le (m : HartM) (k : Int) (hf : m.few) (hk : 0 ≤ k) (hk2 : k ≤ 1048576) : (0 ≤ hK1 m k ∧ hK1 m k ≤ 1099511627776) ∧ (0 ≤ hK2 m k ∧ hK2 m k ≤ 1099511627776) ∧ (0 ≤ hK3 m k ∧ hK3 m k ≤ 1099511627776) ∧ (0 ≤ hK4 m k ∧ hK4 m k ≤ 1099511627776) := by
  obtain ⟨b1, b2, b3, b4⟩ := hf
  unfold hK4 hK3 hK2 hK1
  omega
abbrev hrLV (p : Int × HartM) : LV := .agg [di p.1, .d (ints p.2.regs), di p.2.pc, .d (ints p.2.csr), dv (.bool p.2.halted), dv (.bool p.2.waiting), dv (.bool p.2.rung), di p.2.done, .d (ints p.2.inp), .d (ints p.2.out)]
abbrev hrR (p : Int × HartM) : RV1 := .agg [.v (.int .i64 p.1), oInts p.2.regs, .v (.int .i64 p.2.pc), oInts p.2.csr, .v (.bool p.2.halted), .v (.bool p.2.waiting), .v (.bool p.2.rung), .v (.int .i64 p.2.done), oInts p.2.inp, oInts p.2.out]

end Go.Proofs.YtcllbnancmogfaaDoor.L

/- What the functions compute that make a new machine: contracts. -/
set_option linter.unusedVariables false
set_option linter.unusedSimpArgs false
set_option maxRecDepth 100000
namespace Go.Proofs.YtcllbnancmogfaaDoor.L
open Go.RowKit
def hartZ : HartM := ⟨[], 0, [], false, false, false, 0, [], []⟩
def newHart (l : List Int) : Int × HartM :=
  bif decide ((l.length : Int) > 40) then (2, hartZ) else bif !(l.all isW) then (3, hartZ) else (0, { hartZ with regs := List.replicate 16 0, csr := List.replicate 11 0, inp := l })
theorem rep_get (n i : Nat) : intsF (List.replicate n 0) i = [.v (.int .i64 0)] := by
  show [D.v (.int .i64 ((List.replicate n (0 : Int)).getD i 0))] = _
  have : (List.replicate n (0 : Int)).getD i 0 = 0 := by
    simp only [List.getD, List.getElem?_replicate]
    split <;> rfl
  rw [this]
theorem c_spec_NewHart (l : List Int) (hl : l.length * 8 ≤ 140737488355328) : FnOK Tryd.prog 48 [.d (ints l)] (.r (hrR (newHart l))) := by
  refine fn_of lv48 Tryd.func48 rfl rfl (by kernel_rfl) rfl ?_
  refine bsplit_intro (fun h => ?_) (fun h => ?_)
  · unfold newHart
    rw [h]
    exact ⟨⟨rfl, ⟨rfl, rfl⟩, rfl, ⟨rfl, rfl⟩, rfl, rfl, rfl, rfl, ⟨rfl, rfl⟩, ⟨rfl, rfl⟩, trivial⟩, rfl⟩
  refine .inl ⟨_, _, rfl, c_spec_l8All l (by omega), rfl, ?_⟩
  refine bsplit_intro (fun h2 => ?_) (fun h2 => ?_)
  · unfold newHart
    rw [h, h2]
    exact ⟨⟨rfl, ⟨rfl, rfl⟩, rfl, ⟨rfl, rfl⟩, rfl, rfl, rfl, rfl, ⟨rfl, rfl⟩, ⟨rfl, rfl⟩, trivial⟩, rfl⟩
  refine ask_intro ⟨rfl, by decide, by decide, by decide⟩ ?_
  refine ask_intro ⟨rfl, by decide, by decide, by decide⟩ ?_
  first
    | refine ask_intro ⟨by show (0 + l.length) * 8 ≤ 140737488355328; omega, by omega, fun i hi => rfl⟩ ?_
    | refine .inl ⟨_, _, rfl, c_slices_Clone l hl, rfl, ?_⟩
  refine chk_intro (by kernel_rfl) ?_
  have e : newHart l = (0, { hartZ with regs := List.replicate 16 0, csr := List.replicate 11 0, inp := l }) := by
    unfold newHart
    rw [h, h2]
    rfl
  conv => whnf
  rw [e]
  refine ⟨⟨rfl, ⟨rfl, rfl, rfl, fun i hi => ⟨(rep_get 16 i).symm, rfl⟩⟩, rfl, ⟨rfl, rfl, rfl, fun i hi => ⟨(rep_get 11 i).symm, rfl⟩⟩, rfl, rfl, rfl, rfl, ⟨rfl, rfl, ?_, fun i hi => ⟨rfl, rfl⟩⟩, ⟨rfl, rfl⟩, trivial⟩, rfl⟩
  first
    | rfl
    | exact Nat.zero_add _
end Go.Proofs.YtcllbnancmogfaaDoor.L

/- What the functions compute that copy and ring a machine: contracts. -/
set_option linter.unusedVariables false
set_option linter.unusedSimpArgs false
set_option maxRecDepth 100000
namespace Go.Proofs.YtcllbnancmogfaaDoor.L
open Go.RowKit
theorem c_spec_l8Copy (m : HartM) (hs : m.small) : FnOK Tryd.prog 35 [hartLV m] (.r (hartR m)) := by
  obtain ⟨s1, s2, s3, s4⟩ := hs
  refine fn_of lv35 Tryd.func35 rfl rfl (by kernel_rfl) rfl ?_
  refine ask_intro ⟨by show (0 + m.regs.length) * 8 ≤ 140737488355328; omega, by omega, fun i hi => rfl⟩ ?_
  refine ask_intro ⟨by show (0 + m.csr.length) * 8 ≤ 140737488355328; omega, by omega, fun i hi => rfl⟩ ?_
  refine ask_intro ⟨by show (0 + m.inp.length) * 8 ≤ 140737488355328; omega, by omega, fun i hi => rfl⟩ ?_
  refine ask_intro ⟨by show (0 + m.out.length) * 8 ≤ 140737488355328; omega, by omega, fun i hi => rfl⟩ ?_
  exact ⟨⟨⟨rfl, rfl, Nat.zero_add _, fun i hi => ⟨rfl, rfl⟩⟩, rfl, ⟨rfl, rfl, Nat.zero_add _, fun i hi => ⟨rfl, rfl⟩⟩, rfl, rfl, rfl, rfl, ⟨rfl, rfl, Nat.zero_add _, fun i hi => ⟨rfl, rfl⟩⟩, ⟨rfl, rfl, Nat.zero_add _, fun i hi => ⟨rfl, rfl⟩⟩, trivial⟩, rfl⟩
theorem c_impl_Hart_own (m : HartM) (hs : m.small) : FnOK Tryd.prog 31 [hartLV m] (.r (hartR m)) := by
  obtain ⟨s1, s2, s3, s4⟩ := hs
  refine fn_of lv31 Tryd.func31 rfl rfl (by kernel_rfl) rfl ?_
  refine .inl ⟨_, _, rfl, c_slices_Clone m.regs s1, rfl, ?_⟩
  refine .inl ⟨_, _, rfl, c_slices_Clone m.csr s2, rfl, ?_⟩
  refine .inl ⟨_, _, rfl, c_slices_Clone m.inp s3, rfl, ?_⟩
  refine .inl ⟨_, _, rfl, c_slices_Clone m.out s4, rfl, ?_⟩
  exact ⟨⟨⟨rfl, rfl, rfl, fun i hi => ⟨rfl, rfl⟩⟩, rfl, ⟨rfl, rfl, rfl, fun i hi => ⟨rfl, rfl⟩⟩, rfl, rfl, rfl, rfl, ⟨rfl, rfl, rfl, fun i hi => ⟨rfl, rfl⟩⟩, ⟨rfl, rfl, rfl, fun i hi => ⟨rfl, rfl⟩⟩, trivial⟩, rfl⟩
def ringHart (m : HartM) : Int × HartM := if hFault m = 0 then (0, { m with rung := true }) else (hFault m, hartZ)
end Go.Proofs.YtcllbnancmogfaaDoor.L

/- What the functions that look at pages and memories compute: contracts. -/
set_option linter.unusedVariables false
set_option linter.unusedSimpArgs false
set_option maxRecDepth 100000
namespace Go.Proofs.YtcllbnancmogfaaDoor.L
open Go.RowKit
structure PageM where
  to : Int
  kinds : Int
  deriving DecidableEq
abbrev pageD (p : PageM) : List D := [.v (.int .i64 p.to), .v (.int .i64 p.kinds)]
abbrev pagesF (l : List PageM) (i : Nat) : List D := pageD (l.getD i ⟨0, 0⟩)
abbrev pages (l : List PageM) : D := .l l.length (pagesF l)
def firstNZ : List Int → Int
  | [] => 0
  | x :: xs => if x = 0 then firstNZ xs else x
def pageBad (top : Int) (p : PageM) : Int := bif !inR p.to (-1) (top - 1) || !inR p.kinds 0 7 then 3 else bif (p.to == -1) && (p.kinds != 0) then 1 else 0
def pagesFault (l : List PageM) (top : Int) : Int := bif !inR top 1 24 then 3 else bif (l.length : Int) != 8 then 1 else firstNZ (l.map (pageBad top))
theorem map_drop {α : Type} (d : α) (f : α → Int) (l : List α) (i : Nat) (h : i < l.length) : (l.drop i).map f = f (l.getD i d) :: (l.drop (i + 1)).map f := by
  rw [List.drop_eq_getElem_cons h, List.map_cons]
  simp [List.getD, List.getElem?_eq_getElem h]
def memFault (m : List Int) : Int := bif ((m.length : Int) == 0) || (decide ((m.length : Int) > 192) || (Int.tmod m.length 8 != 0)) then 1 else bif !m.all isW then 3 else 0
end Go.Proofs.YtcllbnancmogfaaDoor.L

/- What the functions compute that turn a machine that is pointed at: contracts. -/
set_option linter.unusedVariables false
set_option linter.unusedSimpArgs false
set_option maxRecDepth 100000
namespace Go.Proofs.YtcllbnancmogfaaDoor.L
open Go.RowKit
theorem set_row (l : List Int) (i : Nat) (v : Int) (h : i < l.length) (j : Nat) : (if j = i then splice (intsF l j) 0 [D.v (.int .i64 v)] else intsF l j) = intsF (l.set i v) j := by
  by_cases e : j = i
  · subst e
    rw [if_pos rfl]
    show [D.v (.int .i64 v)] = [D.v (.int .i64 ((l.set j v).getD j 0))]
    simp [List.getD, h]
  · rw [if_neg e]
    show [D.v (.int .i64 (l.getD j 0))] = [D.v (.int .i64 ((l.set i v).getD j 0))]
    simp [List.getD, List.getElem?_set_ne (Ne.symm e)]
abbrev hBox (m : HartM) : Ent := .box 29 (hartK m 1 2 3 4)
/-- a machine's memory: the machine, its rows -/
abbrev hMem (m : HartM) : List (Nat × Ent) := [(0, hBox m), (1, rowE m.regs), (2, rowE m.csr), (3, rowE m.inp), (4, rowE m.out)]
def backM (m : HartM) : HartM := { m with pc := m.csr.getD 2 0, csr := m.csr.set 0 (IntKind.i64.wrap (2 + IntKind.i64.wrap (Int.tdiv (m.csr.getD 0 0) 2))) }
theorem c_impl_Hart_back (m : HartM) (hc : m.csr.length = 11) : MutOK Tryd.prog 37 [.ptr 0 0] 5 (hMem m) (.tup []) 5 (hMem (backM m)) := by
  refine mut_fn_of lv37 Tryd.func37 rfl rfl (by kernel_rfl) rfl [] ?_
  refine ask_intro ⟨by omega, by show (2 : Int) < m.csr.length; omega⟩ ?_
  refine ask_intro (by show 2 < m.csr.length; omega) ?_
  refine ask_intro ⟨by omega, by show (0 : Int) < m.csr.length; omega⟩ ?_
  refine ask_intro (by show 0 < m.csr.length; omega) ?_
  refine ask_intro (by decide) ?_
  refine ask_intro ⟨by omega, by show (0 : Int) < m.csr.length; omega⟩ ?_
  refine ask_intro (by show 0 < m.csr.length; omega) ?_
  refine chk_intro (by kernel_rfl) ?_
  refine chk_intro (by kernel_rfl) ⟨trivial, tellHp_box rfl rfl ⟨rfl, rfl, rfl, rfl, rfl, rfl, rfl, rfl, rfl, trivial⟩ (tellHp_row rfl rfl rfl (fun j hj => rfl) (tellHp_row rfl rfl ?_ (fun j hj => ?_) (tellHp_row rfl rfl rfl (fun j hj => rfl) (tellHp_row rfl rfl rfl (fun j hj => rfl) tellHp_nil))))⟩
  · show m.csr.length = (backM m).csr.length
    simp [backM]
  · exact set_row m.csr 0 _ (by omega) j
end Go.Proofs.YtcllbnancmogfaaDoor.L

/- What the functions compute that send a machine back from a trap: contracts. -/
set_option linter.unusedVariables false
set_option linter.unusedSimpArgs false
set_option maxRecDepth 100000
namespace Go.Proofs.YtcllbnancmogfaaDoor.L
open Go.RowKit
def backHart (m : HartM) : Int × HartM := if hFault m = 0 then (0, backM m) else (hFault m, hartZ)
theorem c_impl_BackHart (m : HartM) (hs : m.small) : FnOK Tryd.prog 15 [hartLV m] (.r (hrR (backHart m))) := by
  refine fn_of lv15 Tryd.func15 rfl rfl (by kernel_rfl) rfl ?_
  refine .inl ⟨_, _, rfl, c_impl_HartFault m hs, rfl, ?_⟩
  refine bsplit_intro (fun h => ?_) (fun h => ?_)
  · have e : backHart m = (hFault m, hartZ) := if_neg (by simpa using h)
    conv => whnf
    rw [e]
    exact ⟨⟨rfl, ⟨rfl, rfl⟩, rfl, ⟨rfl, rfl⟩, rfl, rfl, rfl, rfl, ⟨rfl, rfl⟩, ⟨rfl, rfl⟩, trivial⟩, rfl⟩
  have h0 := fault_ne h
  have e : backHart m = (0, backM m) := if_pos h0
  refine .inl ⟨_, _, rfl, c_impl_Hart_own m hs, rfl, ?_⟩
  refine .inr ⟨rfl, use_mut ⟨_, _, _, _, _, _, rfl, rfl, c_impl_Hart_back m (hFault_zero h0).2.1, rfl, ?_⟩⟩
  conv => whnf
  rw [e]
  exact ⟨⟨rfl, ⟨rfl, rfl, rfl, fun i hi => ⟨rfl, rfl⟩⟩, rfl, ⟨rfl, rfl, rfl, fun i hi => ⟨rfl, rfl⟩⟩, rfl, rfl, rfl, rfl, ⟨rfl, rfl, rfl, fun i hi => ⟨rfl, rfl⟩⟩, ⟨rfl, rfl, rfl, fun i hi => ⟨rfl, rfl⟩⟩, trivial⟩, rfl⟩
end Go.Proofs.YtcllbnancmogfaaDoor.L

/- What the functions compute that turn a machine that is pointed at: contracts. -/
set_option linter.unusedVariables false
set_option linter.unusedSimpArgs false
set_option maxRecDepth 100000
namespace Go.Proofs.YtcllbnancmogfaaDoor.L
open Go.RowKit
/-- a store into a row of whole numbers, at one place -/
theorem set_at {l : List Int} {i j : Nat} {v : Int} {x : List D} (h : x = intsF l j) (hi : i < l.length) : (if j = i then splice x 0 [D.v (.int .i64 v)] else x) = intsF (l.set i v) j := by
  rw [h]; exact set_row l i v hi j
def trapM (m : HartM) (c t : Int) : HartM := { m with pc := m.csr.getD 1 0, csr := (((m.csr.set 2 m.pc).set 3 c).set 4 t).set 0 (IntKind.i64.wrap (Int.tmod (m.csr.getD 0 0) 2 * 2)), waiting := false }
theorem c_spec_l8Trap (m : HartM) (c t : Int) (hc : m.csr.length = 11) : MutOK Tryd.prog 36 [.ptr 0 0, di c, di t] 5 (hMem m) (.tup []) 5 (hMem (trapM m c t)) := by
  refine mut_fn_of lv36 Tryd.func36 rfl rfl (by kernel_rfl) rfl [] ?_
  (repeat' (first | refine ask_intro ?_ ?_ | refine chk_intro (by kernel_rfl) ?_)) <;> (try (first | omega | decide))
  refine ⟨trivial, tellHp_box rfl rfl ⟨rfl, rfl, rfl, rfl, rfl, rfl, rfl, rfl, rfl, trivial⟩ (tellHp_row rfl rfl rfl (fun j hj => rfl) (tellHp_row rfl rfl ?_ (fun j hj => ?_) (tellHp_row rfl rfl rfl (fun j hj => rfl) (tellHp_row rfl rfl rfl (fun j hj => rfl) tellHp_nil))))⟩
  · show m.csr.length = (trapM m c t).csr.length
    simp [trapM]
  · exact set_at (set_at (set_at (set_at rfl (by omega)) (by simp; omega)) (by simp; omega)) (by simp; omega)
theorem c_impl_Hart_trap (m : HartM) (c t : Int) (hc : m.csr.length = 11) : MutOK Tryd.prog 32 [.ptr 0 0, di c, di t] 5 (hMem m) (.tup []) 5 (hMem (trapM m c t)) := by
  refine mut_fn_of lv32 Tryd.func32 rfl rfl (by kernel_rfl) rfl [] ?_
  (repeat' (first | refine ask_intro ?_ ?_ | refine chk_intro (by kernel_rfl) ?_)) <;> (try (first | omega | decide))
  refine ⟨trivial, tellHp_box rfl rfl ⟨rfl, rfl, rfl, rfl, rfl, rfl, rfl, rfl, rfl, trivial⟩ (tellHp_row rfl rfl rfl (fun j hj => rfl) (tellHp_row rfl rfl ?_ (fun j hj => ?_) (tellHp_row rfl rfl rfl (fun j hj => rfl) (tellHp_row rfl rfl rfl (fun j hj => rfl) tellHp_nil))))⟩
  · show m.csr.length = (trapM m c t).csr.length
    simp [trapM]
  · exact set_at (set_at (set_at (set_at rfl (by omega)) (by simp; omega)) (by simp; omega)) (by simp; omega)
def trapHart (m : HartM) (c t : Int) : Int × HartM := if hFault m = 0 then (bif !inR c 0 31 || !isW t then (3, hartZ) else (0, trapM m c t)) else (hFault m, hartZ)
theorem c_spec_TrapHart (m : HartM) (hs : m.small) (c t : Int) : FnOK Tryd.prog 14 [hartLV m, di c, di t] (.r (hrR (trapHart m c t))) := by
  refine fn_of lv14 Tryd.func14 rfl rfl (by kernel_rfl) rfl ?_
  refine .inl ⟨_, _, rfl, c_spec_l8Fault m hs, rfl, ?_⟩
  refine bsplit_intro (fun h => ?_) (fun h => ?_)
  · have e : trapHart m c t = (hFault m, hartZ) := if_neg (by simpa using h)
    conv => whnf
    rw [e]
    exact ⟨⟨rfl, ⟨rfl, rfl⟩, rfl, ⟨rfl, rfl⟩, rfl, rfl, rfl, rfl, ⟨rfl, rfl⟩, ⟨rfl, rfl⟩, trivial⟩, rfl⟩
  have h0 := fault_ne h
  refine .inl ⟨_, _, rfl, c_spec_l1In _ _ _, rfl, ?_⟩
  have bad : (!inR c 0 31 || !isW t) = true → trapHart m c t = (3, hartZ) := fun hb => by unfold trapHart; rw [if_pos h0, hb]; rfl
  refine bsplit_intro (fun h1 => ?_) (fun h1 => ?_)
  · repeat' (first | refine bsplit_true ?_ | refine bsplit_false ?_)
    conv => whnf
    rw [bad (by simp at h1; simp [h1])]
    exact ⟨⟨rfl, ⟨rfl, rfl⟩, rfl, ⟨rfl, rfl⟩, rfl, rfl, rfl, rfl, ⟨rfl, rfl⟩, ⟨rfl, rfl⟩, trivial⟩, rfl⟩
  repeat' (first | refine bsplit_true ?_ | refine bsplit_false ?_)
  refine .inl ⟨_, _, rfl, c_spec_l8Word _, rfl, ?_⟩
  repeat' (first | refine bsplit_true ?_ | refine bsplit_false ?_)
  refine bsplit_intro (fun h2 => ?_) (fun h2 => ?_)
  · repeat' (first | refine bsplit_true ?_ | refine bsplit_false ?_)
    conv => whnf
    rw [bad (by simp at h2; simp [h2])]
    exact ⟨⟨rfl, ⟨rfl, rfl⟩, rfl, ⟨rfl, rfl⟩, rfl, rfl, rfl, rfl, ⟨rfl, rfl⟩, ⟨rfl, rfl⟩, trivial⟩, rfl⟩
  repeat' (first | refine bsplit_true ?_ | refine bsplit_false ?_)
  have e : trapHart m c t = (0, trapM m c t) := by unfold trapHart; rw [if_pos h0]; simp at h1 h2; simp [h1, h2]
  refine .inl ⟨_, _, rfl, c_spec_l8Copy m hs, rfl, ?_⟩
  refine .inr ⟨rfl, use_mut ⟨_, _, _, _, _, _, rfl, rfl, c_spec_l8Trap m c t (hFault_zero h0).2.1, rfl, ?_⟩⟩
  conv => whnf
  rw [e]
  exact ⟨⟨rfl, ⟨rfl, rfl, rfl, fun i hi => ⟨rfl, rfl⟩⟩, rfl, ⟨rfl, rfl, rfl, fun i hi => ⟨rfl, rfl⟩⟩, rfl, rfl, rfl, rfl, ⟨rfl, rfl, rfl, fun i hi => ⟨rfl, rfl⟩⟩, ⟨rfl, rfl, rfl, fun i hi => ⟨rfl, rfl⟩⟩, trivial⟩, rfl⟩
theorem c_impl_TrapHart (m : HartM) (hs : m.small) (c t : Int) : FnOK Tryd.prog 13 [hartLV m, di c, di t] (.r (hrR (trapHart m c t))) := by
  refine fn_of lv13 Tryd.func13 rfl rfl (by kernel_rfl) rfl ?_
  refine .inl ⟨_, _, rfl, c_impl_HartFault m hs, rfl, ?_⟩
  refine bsplit_intro (fun h => ?_) (fun h => ?_)
  · have e : trapHart m c t = (hFault m, hartZ) := if_neg (by simpa using h)
    conv => whnf
    rw [e]
    exact ⟨⟨rfl, ⟨rfl, rfl⟩, rfl, ⟨rfl, rfl⟩, rfl, rfl, rfl, rfl, ⟨rfl, rfl⟩, ⟨rfl, rfl⟩, trivial⟩, rfl⟩
  have h0 := fault_ne h
  refine .inl ⟨_, _, rfl, c_impl_within _ _ _, rfl, ?_⟩
  have bad : (!inR c 0 31 || !isW t) = true → trapHart m c t = (3, hartZ) := fun hb => by unfold trapHart; rw [if_pos h0, hb]; rfl
  refine bsplit_intro (fun h1 => ?_) (fun h1 => ?_)
  · repeat' (first | refine bsplit_true ?_ | refine bsplit_false ?_)
    conv => whnf
    rw [bad (by simp at h1; simp [h1])]
    exact ⟨⟨rfl, ⟨rfl, rfl⟩, rfl, ⟨rfl, rfl⟩, rfl, rfl, rfl, rfl, ⟨rfl, rfl⟩, ⟨rfl, rfl⟩, trivial⟩, rfl⟩
  repeat' (first | refine bsplit_true ?_ | refine bsplit_false ?_)
  refine .inl ⟨_, _, rfl, c_impl_isWord _, rfl, ?_⟩
  repeat' (first | refine bsplit_true ?_ | refine bsplit_false ?_)
  refine bsplit_intro (fun h2 => ?_) (fun h2 => ?_)
  · repeat' (first | refine bsplit_true ?_ | refine bsplit_false ?_)
    conv => whnf
    rw [bad (by simp at h2; simp [h2])]
    exact ⟨⟨rfl, ⟨rfl, rfl⟩, rfl, ⟨rfl, rfl⟩, rfl, rfl, rfl, rfl, ⟨rfl, rfl⟩, ⟨rfl, rfl⟩, trivial⟩, rfl⟩
  repeat' (first | refine bsplit_true ?_ | refine bsplit_false ?_)
  have e : trapHart m c t = (0, trapM m c t) := by unfold trapHart; rw [if_pos h0]; simp at h1 h2; simp [h1, h2]
  refine .inl ⟨_, _, rfl, c_impl_Hart_own m hs, rfl, ?_⟩
  refine .inr ⟨rfl, use_mut ⟨_, _, _, _, _, _, rfl, rfl, c_impl_Hart_trap m c t (hFault_zero h0).2.1, rfl, ?_⟩⟩
  conv => whnf
  rw [e]
  exact ⟨⟨rfl, ⟨rfl, rfl, rfl, fun i hi => ⟨rfl, rfl⟩⟩, rfl, ⟨rfl, rfl, rfl, fun i hi => ⟨rfl, rfl⟩⟩, rfl, rfl, rfl, rfl, ⟨rfl, rfl, rfl, fun i hi => ⟨rfl, rfl⟩⟩, ⟨rfl, rfl, rfl, fun i hi => ⟨rfl, rfl⟩⟩, trivial⟩, rfl⟩
theorem upto_ints (a b : List Int) (i : Nat) : upto a.length (intsF a) (intsF b) i = intsF (a ++ b) i := by
  unfold upto
  show _ = [D.v (.int .i64 ((a ++ b).getD i 0))]
  split
  · rename_i h; show [D.v (.int .i64 (a.getD i 0))] = _; simp [List.getD, List.getElem?_append, h]
  · rename_i h; show [D.v (.int .i64 (b.getD (i - a.length) 0))] = _; simp [List.getD, List.getElem?_append, h]
def feedHart (m : HartM) (l : List Int) : Int × HartM :=
  if hFault m = 0 then (bif !l.all isW then (3, hartZ) else bif decide ((m.inp.length : Int) + l.length > 40) then (2, hartZ) else (0, { m with inp := m.inp ++ l })) else (hFault m, hartZ)
end Go.Proofs.YtcllbnancmogfaaDoor.L

/- What the functions compute that set a number of a machine: contracts. -/
set_option linter.unusedVariables false
set_option linter.unusedSimpArgs false
set_option maxRecDepth 100000
namespace Go.Proofs.YtcllbnancmogfaaDoor.L
open Go.RowKit
def wrapW (n : Int) : Int := n % 4294967296
theorem wrapW_le (n : Int) : 0 ≤ wrapW n ∧ wrapW n ≤ 4294967295 := by unfold wrapW; omega
theorem and_mask (a : Int) : IntKind.i64.wrap (BitVec.ofInt IntKind.i64.bits a &&& BitVec.ofInt IntKind.i64.bits 4294967295).toNat = wrapW a := by
  have e : (BitVec.ofInt IntKind.i64.bits a &&& BitVec.ofInt IntKind.i64.bits 4294967295).toNat = (a % 18446744073709551616).toNat % 4294967296 := by
    rw [BitVec.toNat_and, BitVec.toNat_ofInt, BitVec.toNat_ofInt]
    show (a % 18446744073709551616).toNat &&& (2 ^ 32 - 1) = _
    rw [Nat.and_two_pow_sub_one_eq_mod]
  rw [e]
  unfold wrapW
  have : (((a % 18446744073709551616).toNat % 4294967296 : Nat) : Int) = a % 4294967296 := by omega
  rw [this]
  exact wrap_i64 _ (by omega) (by omega)
theorem wrap_u32 (a : Int) : IntKind.u32.wrap a = a % 4294967296 := by
  simp [IntKind.wrap, IntKind.bits, IntKind.signed]
theorem c_spec_WrapWord (n : Int) : FnOK Tryd.prog 53 [di n] (ri (wrapW n)) := by
  refine fn_of lv53 Tryd.func53 rfl rfl (by kernel_rfl) rfl ?_
  refine ⟨⟨congrArg (Value.int .i64) ?_, trivial⟩, rfl⟩
  first
    | exact and_mask n
    | (show IntKind.i64.wrap (IntKind.u32.wrap n) = _
       rw [wrap_u32]
       exact wrap_i64 _ (by omega) (by omega))
def setCsrL (m : HartM) (k v : Int) : HartM := { m with csr := m.csr.set k.toNat v }
def setM (m : HartM) (k w0 : Int) : HartM :=
  if k = 0 then setCsrL m k (Int.tmod (wrapW w0) 4) else if k = 7 then setCsrL m k (Int.tmod (wrapW w0) 8) else if k = 10 then setCsrL m k (if wrapW w0 ≤ 8 then wrapW w0 else 0)
  else if k = 6 then { m with rung := m.rung && decide (Int.tmod (wrapW w0) 4 < 2) } else if k = 8 then m else setCsrL m k (wrapW w0)
theorem c_spec_l8Set (m : HartM) (k w : Int) (hc : m.csr.length = 11) (hk : inR k 0 10 = true) : MutOK Tryd.prog 51 [.ptr 0 0, di k, di w] 5 (hMem m) (.tup []) 5 (hMem (setM m k w)) := by
  rw [inR_iff] at hk
  refine mut_fn_of lv51 Tryd.func51 rfl rfl (by kernel_rfl) rfl [] ?_
  refine .inl ⟨_, _, rfl, c_spec_WrapWord w, rfl, ?_⟩
  generalize hm : setM m k w = m'
  unfold setM at hm
  have fin : ∀ v : Int, (m.csr.length = (setCsrL m k v).csr.length) ∧ ∀ j, (if j = k.toNat then splice (intsF m.csr j) 0 [D.v (.int .i64 v)] else intsF m.csr j) = intsF (setCsrL m k v).csr j :=
    fun v => ⟨by simp [setCsrL], fun j => set_at rfl (by omega)⟩
  repeat' (first | refine bsplit_true ?_ | refine bsplit_false ?_)
  refine bsplit_intro (fun h => ?_) (fun h => ?_)
  · rw [if_pos (by simpa using h)] at hm
    subst hm
    (repeat' (first | refine ask_intro ?_ ?_ | refine chk_intro (by kernel_rfl) ?_)) <;> (try (first | omega | decide))
    exact ⟨trivial, tellHp_box rfl rfl ⟨rfl, rfl, rfl, rfl, rfl, rfl, rfl, rfl, rfl, trivial⟩ (tellHp_row rfl rfl rfl (fun j hj => rfl) (tellHp_row rfl rfl (fin _).1 (fun j hj => (fin _).2 j) (tellHp_row rfl rfl rfl (fun j hj => rfl) (tellHp_row rfl rfl rfl (fun j hj => rfl) tellHp_nil))))⟩
  rw [if_neg (by simpa using h)] at hm
  refine bsplit_intro (fun h => ?_) (fun h => ?_)
  · rw [if_pos (by simpa using h)] at hm
    subst hm
    (repeat' (first | refine ask_intro ?_ ?_ | refine chk_intro (by kernel_rfl) ?_)) <;> (try (first | omega | decide))
    exact ⟨trivial, tellHp_box rfl rfl ⟨rfl, rfl, rfl, rfl, rfl, rfl, rfl, rfl, rfl, trivial⟩ (tellHp_row rfl rfl rfl (fun j hj => rfl) (tellHp_row rfl rfl (fin _).1 (fun j hj => (fin _).2 j) (tellHp_row rfl rfl rfl (fun j hj => rfl) (tellHp_row rfl rfl rfl (fun j hj => rfl) tellHp_nil))))⟩
  rw [if_neg (by simpa using h)] at hm
  refine bsplit_intro (fun h => ?_) (fun h => ?_)
  · rw [if_pos (by simpa using h)] at hm
    (repeat' (first | refine ask_intro ?_ ?_ | refine chk_intro (by kernel_rfl) ?_)) <;> (try (first | omega | decide))
    refine bsplit_intro (fun h2 => ?_) (fun h2 => ?_)
    · rw [if_pos (by simpa using h2)] at hm
      subst hm
      (repeat' (first | refine ask_intro ?_ ?_ | refine chk_intro (by kernel_rfl) ?_)) <;> (try (first | omega | decide))
      refine ⟨trivial, tellHp_box rfl rfl ⟨rfl, rfl, rfl, rfl, rfl, rfl, rfl, rfl, rfl, trivial⟩ (tellHp_row rfl rfl rfl (fun j hj => rfl) (tellHp_row rfl rfl (fin _).1 (fun j hj => ?_) (tellHp_row rfl rfl rfl (fun j hj => rfl) (tellHp_row rfl rfl rfl (fun j hj => rfl) tellHp_nil))))⟩
      refine (set_at (l := m.csr.set k.toNat 0) (set_at rfl (by omega)) (by simp; omega)).trans ?_
      show intsF _ j = intsF (m.csr.set k.toNat (wrapW w)) j
      rw [List.set_set]
    · rw [if_neg (by simpa using h2)] at hm
      subst hm
      (repeat' (first | refine ask_intro ?_ ?_ | refine chk_intro (by kernel_rfl) ?_)) <;> (try (first | omega | decide))
      exact ⟨trivial, tellHp_box rfl rfl ⟨rfl, rfl, rfl, rfl, rfl, rfl, rfl, rfl, rfl, trivial⟩ (tellHp_row rfl rfl rfl (fun j hj => rfl) (tellHp_row rfl rfl (fin _).1 (fun j hj => (fin _).2 j) (tellHp_row rfl rfl rfl (fun j hj => rfl) (tellHp_row rfl rfl rfl (fun j hj => rfl) tellHp_nil))))⟩
  rw [if_neg (by simpa using h)] at hm
  refine bsplit_intro (fun h => ?_) (fun h => ?_)
  · rw [if_pos (by simpa using h)] at hm
    subst hm
    (repeat' (first | refine ask_intro ?_ ?_ | refine chk_intro (by kernel_rfl) ?_)) <;> (try (first | omega | decide))
    refine bsplit_intro (fun h2 => ?_) (fun h2 => ?_) <;> (repeat' (first | refine bsplit_true ?_ | refine bsplit_false ?_ | refine ask_intro ?_ ?_ | refine chk_intro (by kernel_rfl) ?_)) <;> (try (first | omega | decide))
    all_goals
      refine ⟨trivial, tellHp_box rfl rfl ⟨rfl, rfl, rfl, rfl, rfl, congrArg Value.bool ?_, rfl, rfl, rfl, trivial⟩ (tellHp_row rfl rfl rfl (fun j hj => rfl) (tellHp_row rfl rfl rfl (fun j hj => rfl) (tellHp_row rfl rfl rfl (fun j hj => rfl) (tellHp_row rfl rfl rfl (fun j hj => rfl) tellHp_nil))))⟩
      first
        | (simp [h2]; done)
        | (have h3 : ¬ (wrapW w).tmod 4 < 2 := by (simp at h2; omega)
           simp [h3]; done)
        | (have h3 : (wrapW w).tmod 4 < 2 := by (simp at h2; omega)
           simp [h3]; done)
  rw [if_neg (by simpa using h)] at hm
  refine bsplit_intro (fun h => ?_) (fun h => ?_)
  · rw [if_pos (by simpa using h)] at hm
    subst hm
    (repeat' (first | refine ask_intro ?_ ?_ | refine chk_intro (by kernel_rfl) ?_)) <;> (try (first | omega | decide))
    exact ⟨trivial, tellHp_box rfl rfl ⟨rfl, rfl, rfl, rfl, rfl, rfl, rfl, rfl, rfl, trivial⟩ (tellHp_row rfl rfl rfl (fun j hj => rfl) (tellHp_row rfl rfl rfl (fun j hj => rfl) (tellHp_row rfl rfl rfl (fun j hj => rfl) (tellHp_row rfl rfl rfl (fun j hj => rfl) tellHp_nil))))⟩
  rw [if_neg (by simpa using h)] at hm
  subst hm
  (repeat' (first | refine ask_intro ?_ ?_ | refine chk_intro (by kernel_rfl) ?_)) <;> (try (first | omega | decide))
  exact ⟨trivial, tellHp_box rfl rfl ⟨rfl, rfl, rfl, rfl, rfl, rfl, rfl, rfl, rfl, trivial⟩ (tellHp_row rfl rfl rfl (fun j hj => rfl) (tellHp_row rfl rfl (fin _).1 (fun j hj => (fin _).2 j) (tellHp_row rfl rfl rfl (fun j hj => rfl) (tellHp_row rfl rfl rfl (fun j hj => rfl) tellHp_nil))))⟩
def setCsr (m : HartM) (k w : Int) : Int × HartM := if hFault m = 0 then (bif !inR k 0 10 then (3, hartZ) else (0, setM m k w)) else (hFault m, hartZ)
end Go.Proofs.YtcllbnancmogfaaDoor.L

/- What the functions compute that draw numbers out of a code's bytes: contracts. -/
set_option linter.unusedVariables false
set_option linter.unusedSimpArgs false
set_option maxRecDepth 100000
namespace Go.Proofs.YtcllbnancmogfaaDoor.L
open Go.RowKit
abbrev bytesD (c : List Int) : D := .l c.length fun i => [.v (.int .u8 (c.getD i 0))]
abbrev srcBox (c : List Int) (p : Int) : Ent := .box 67 [.d (bytesD c), di p]
structure okCode (c : List Int) : Prop where
  len : c.length ≤ 1048576
  byte : ∀ x ∈ c, 0 ≤ x ∧ x ≤ 255
theorem okCode.at {c : List Int} (h : okCode c) (i : Nat) : 0 ≤ c.getD i 0 ∧ c.getD i 0 ≤ 255 := by
  rcases Nat.lt_or_ge i c.length with hi | hi
  · have : c.getD i 0 = c[i] := by simp [List.getD, List.getElem?_eq_getElem hi]
    rw [this]; exact h.byte _ (List.getElem_mem hi)
  · simp [List.getD, List.getElem?_eq_none hi]
def nxRaw (c : List Int) (p n : Int) : Int :=
  if (c.length : Int) = 0 then p * 7 else
  if n > 200 then (c.getD (Int.tmod p c.length).toNat 0 + Int.tdiv p c.length * 37) * 251 + c.getD (Int.tmod (p + 1) c.length).toNat 0 * 13 + p
  else c.getD (Int.tmod p c.length).toNat 0 + Int.tdiv p c.length * 37
def nx (c : List Int) (p n : Int) : Int := if n < 1 then 0 else Int.tmod (nxRaw c p n) n
theorem raw1 {b q : Int} (h1 : 0 ≤ b) (h2 : b ≤ 255) (h3 : 0 ≤ q) (h4 : q ≤ 1099511627776) : IntKind.i64.wrap (IntKind.i64.wrap b + IntKind.i64.wrap (IntKind.i64.wrap q * 37)) = b + q * 37 := by
  simp only [IntKind.wrap_i64]; omega
theorem tdiv_le {a b : Int} (h1 : 0 ≤ a) (h2 : 0 < b) : 0 ≤ Int.tdiv a b ∧ Int.tdiv a b ≤ a := ⟨Int.tdiv_nonneg h1 (by omega), Int.tdiv_le_self b h1⟩
theorem tmod_in {a b : Int} (h1 : 0 ≤ a) (h2 : 0 < b) : 0 ≤ Int.tmod a b ∧ Int.tmod a b < b := ⟨Int.tmod_nonneg b h1, Int.tmod_lt_of_pos a h2⟩
theorem nxRaw_le {c : List Int} (hc : okCode c) {p : Int} (h1 : 0 ≤ p) (n : Int) : 0 ≤ nxRaw c p n := by
  have a := hc.at (Int.tmod p c.length).toNat
  have b := hc.at (Int.tmod (p + 1) c.length).toNat
  have d : 0 ≤ Int.tdiv p c.length := Int.tdiv_nonneg h1 (Int.natCast_nonneg _)
  unfold nxRaw
  split
  · omega
  · split <;> omega
theorem nx_in {c : List Int} (hc : okCode c) {p : Int} (h1 : 0 ≤ p) {n : Int} (hn : 1 ≤ n) : 0 ≤ nx c p n ∧ nx c p n < n := by
  unfold nx
  rw [if_neg (by omega)]
  exact tmod_in (nxRaw_le hc h1 n) (by omega)
theorem c_spec_l1Next (c : List Int) (hc : okCode c) (p n : Int) (hp : 0 ≤ p) (hp2 : p ≤ 549755813888) : MutOK Tryd.prog 28 [.ptr 0 0, di n] 1 [(0, srcBox c p)] (di (nx c p n)) 1 [(0, srcBox c (p + 1))] := by
  refine mut_fn_of lv28 Tryd.func28 rfl rfl (by kernel_rfl) rfl [] ?_
  have hw : IntKind.i64.wrap (p + 1) = p + 1 := wrap_i64 _ (by omega) (by omega)
  have hw2 : IntKind.i64.wrap (IntKind.i64.wrap (p + 1) - 1) = p := by rw [hw]; exact (wrap_i64 _ (by omega) (by omega)).trans (by omega)
  have a1 := hc.at (Int.tmod p c.length).toNat
  have a2 := hc.at (Int.tmod (p + 1) c.length).toNat
  have hlen := hc.len
  generalize hq : nx c p n = r
  unfold nx at hq
  (repeat' (first | refine bsplit_true ?_ | refine bsplit_false ?_ | refine ask_intro ?_ ?_ | refine chk_intro (by kernel_rfl) ?_)) <;> (try (first | omega | decide))
  refine bsplit_intro (fun h1 => ?_) (fun h1 => ?_)
  · rw [if_pos (by simpa using h1)] at hq
    subst hq
    (repeat' (first | refine bsplit_true ?_ | refine bsplit_false ?_ | refine ask_intro ?_ ?_ | refine chk_intro (by kernel_rfl) ?_)) <;> (try (first | omega | decide))
    exact ⟨tellV_v rfl rfl, tellHp_box rfl rfl ⟨DLe.refl _, congrArg (Value.int .i64) hw, trivial⟩ tellHp_nil⟩
  have hn : ¬ n < 1 := by simpa using h1
  rw [if_neg hn] at hq
  unfold nxRaw at hq
  refine bsplit_intro (fun h2 => ?_) (fun h2 => ?_)
  · rw [if_pos (by simpa using h2)] at hq
    subst hq
    refine ask_intro (show n ≠ 0 by omega) ?_
    refine chk_intro (by kernel_rfl) ⟨tellV_v rfl (congrArg (Value.int .i64) ?_), tellHp_box rfl rfl ⟨DLe.refl _, congrArg (Value.int .i64) hw, trivial⟩ tellHp_nil⟩
    rw [hw2, wrap_i64 (p * 7) (by omega) (by omega)]
  have hk : ¬ (c.length : Int) = 0 := by simpa using h2
  rw [if_neg hk] at hq
  have b1 := tmod_in hp (show 0 < (c.length : Int) by omega)
  have b2 := tmod_in (show 0 ≤ p + 1 by omega) (show 0 < (c.length : Int) by omega)
  have b3 := tdiv_le hp (show 0 < (c.length : Int) by omega)
  refine ask_intro (show (c.length : Int) ≠ 0 from hk) ?_
  refine ask_intro ⟨by show 0 ≤ Int.tmod (IntKind.i64.wrap (IntKind.i64.wrap (p + 1) - 1)) _; rw [hw2]; exact b1.1, by show Int.tmod (IntKind.i64.wrap (IntKind.i64.wrap (p + 1) - 1)) _ < _; rw [hw2]; exact b1.2, rfl⟩ ?_
  refine ask_intro (show (c.length : Int) ≠ 0 from hk) ?_
  (repeat' (first | refine bsplit_true ?_ | refine bsplit_false ?_ | refine ask_intro ?_ ?_ | refine chk_intro (by kernel_rfl) ?_)) <;> (try (first | omega | decide))
  refine bsplit_intro (fun h3 => ?_) (fun h3 => ?_)
  · rw [if_pos (by simpa using h3)] at hq
    refine ask_intro (show (c.length : Int) ≠ 0 from hk) ?_
    refine ask_intro ⟨by show 0 ≤ Int.tmod (IntKind.i64.wrap (IntKind.i64.wrap (IntKind.i64.wrap (p + 1) - 1) + 1)) _; rw [hw2, hw]; exact b2.1, by show Int.tmod (IntKind.i64.wrap (IntKind.i64.wrap (IntKind.i64.wrap (p + 1) - 1) + 1)) _ < _; rw [hw2, hw]; exact b2.2, rfl⟩ ?_
    (repeat' (first | refine bsplit_true ?_ | refine bsplit_false ?_ | refine ask_intro ?_ ?_ | refine chk_intro (by kernel_rfl) ?_)) <;> (try (first | omega | decide))
    refine ⟨tellV_v rfl (congrArg (Value.int .i64) ?_), tellHp_box rfl rfl ⟨DLe.refl _, congrArg (Value.int .i64) hw, trivial⟩ tellHp_nil⟩
    rw [← hq, hw2, hw]
    congr 1
    generalize c.getD (Int.tmod p c.length).toNat 0 = u1 at *
    generalize c.getD (Int.tmod (p + 1) c.length).toNat 0 = u2 at *
    generalize Int.tdiv p c.length = u3 at *
    simp only [IntKind.wrap_i64]
    omega
  rw [if_neg (by simpa using h3)] at hq
  refine ask_intro (show n ≠ 0 by omega) ?_
  refine chk_intro (by kernel_rfl) ⟨tellV_v rfl (congrArg (Value.int .i64) ?_), tellHp_box rfl rfl ⟨DLe.refl _, congrArg (Value.int .i64) hw, trivial⟩ tellHp_nil⟩
  rw [← hq, hw2]
  congr 1
  generalize c.getD (Int.tmod p c.length).toNat 0 = u1 at *
  generalize Int.tdiv p c.length = u3 at *
  simp only [IntKind.wrap_i64]
  omega
theorem c_spec_l1Source (c : List Int) : MutOK Tryd.prog 25 [.d (bytesD c)] 0 [] (.ptr 0 0) 1 [(0, srcBox c 0)] := by
  refine mut_fn_of lv25 Tryd.func25 rfl rfl (by kernel_rfl) rfl [(0, 4160)] ?_
  refine chk_intro (by kernel_rfl) ⟨⟨rfl, rfl⟩, tellHp_box rfl rfl ⟨DLe.refl _, rfl, trivial⟩ tellHp_nil⟩
theorem c_spec_l1Chance (c : List Int) (hc : okCode c) (p n : Int) (hp : 0 ≤ p) (hp2 : p ≤ 549755813888) : MutOK Tryd.prog 49 [.ptr 0 0, di n] 1 [(0, srcBox c p)] (dv (.bool (nx c p n == 0))) 1 [(0, srcBox c (p + 1))] := by
  refine mut_fn_of lv49 Tryd.func49 rfl rfl (by kernel_rfl) rfl [] ?_
  refine .inr ⟨rfl, use_mut ⟨_, _, _, _, _, _, rfl, rfl, c_spec_l1Next c hc p n hp hp2, rfl, ?_⟩⟩
  refine chk_intro (by kernel_rfl) ⟨tellV_v rfl rfl, tellHp_box rfl rfl ⟨DLe.refl _, rfl, trivial⟩ tellHp_nil⟩
/-- what is picked -/
def pk (c : List Int) (p : Int) (l : List Int) : Int := l.getD (nx c p l.length).toNat 0
theorem pk_mem {c : List Int} (hc : okCode c) {p : Int} (hp : 0 ≤ p) {l : List Int} (hl : l ≠ []) : pk c p l ∈ l := by
  have h1 : 1 ≤ (l.length : Int) := by cases l with | nil => exact absurd rfl hl | cons => simp; omega
  have h2 := nx_in hc hp h1
  have h3 : (nx c p l.length).toNat < l.length := by omega
  unfold pk
  simp [List.getD, List.getElem?_eq_getElem h3]
theorem c_spec_l1Pick0 (c : List Int) (hc : okCode c) (p : Int) (l : List Int) (hp : 0 ≤ p) (hp2 : p ≤ 549755813888) (hl : l ≠ []) : MutOK Tryd.prog 27 [.ptr 0 0, .row 1] 2 [(0, srcBox c p), (1, rowE l)] (di (pk c p l)) 2 [(0, srcBox c (p + 1)), (1, rowE l)] := by
  have h1 : 1 ≤ (l.length : Int) := by cases l with | nil => exact absurd rfl hl | cons => simp; omega
  have h2 := nx_in hc hp h1
  refine mut_fn_of lv27 Tryd.func27 rfl rfl (by kernel_rfl) rfl [] ?_
  refine .inr ⟨rfl, use_mut ⟨_, _, _, _, _, _, rfl, rfl, c_spec_l1Next c hc p l.length hp hp2, rfl, ?_⟩⟩
  refine ask_intro h2 ?_
  refine ask_intro (show (nx c p l.length).toNat < l.length by omega) ?_
  refine chk_intro (by kernel_rfl) ⟨tellV_v rfl rfl, tellHp_box rfl rfl ⟨DLe.refl _, rfl, trivial⟩ (tellHp_row rfl rfl rfl (fun j hj => rfl) tellHp_nil)⟩
/-- the elements of a literal -/
abbrev litD (l : List Int) (i : Nat) : List D := (l.map fun v => [D.v (.int .i64 v)]).getD i []
theorem litD_eq (l : List Int) (i : Nat) (h : i < l.length) : litD l i = intsF l i := by
  show _ = [D.v (.int .i64 (l.getD i 0))]
  simp [litD, List.getD, h]
theorem c_spec_l1Pick (c : List Int) (hc : okCode c) (p : Int) (l : List Int) (hp : 0 ≤ p) (hp2 : p ≤ 549755813888) (hl : l ≠ []) : MutOK Tryd.prog 27 [.ptr 0 0, .row 1] 2 [(0, srcBox c p), (1, .row 2 1 l.length (litD l))] (di (pk c p l)) 2 [(0, srcBox c (p + 1)), (1, rowE l)] :=
  (c_spec_l1Pick0 c hc p l hp hp2 hl).rows ⟨rfl, rfl, rfl, ⟨rfl, rfl, rfl, fun i hi => litD_eq l i hi⟩, trivial⟩
theorem pickE (c : List Int) (hc : okCode c) (p : Int) (l : List Int) (hp : 0 ≤ p) (hp2 : p ≤ 549755813888) (hl : l ≠ []) : ∃ v, v ∈ l ∧ MutOK Tryd.prog 27 [.ptr 0 0, .row 1] 2 [(0, srcBox c p), (1, .row 2 1 l.length (litD l))] (di v) 2 [(0, srcBox c (p + 1)), (1, rowE l)] :=
  ⟨pk c p l, pk_mem hc hp hl, c_spec_l1Pick c hc p l hp hp2 hl⟩
theorem nextE (c : List Int) (hc : okCode c) (p n : Int) (hp : 0 ≤ p) (hp2 : p ≤ 549755813888) (hn : 1 ≤ n) : ∃ v, 0 ≤ v ∧ v < n ∧ MutOK Tryd.prog 28 [.ptr 0 0, di n] 1 [(0, srcBox c p)] (di v) 1 [(0, srcBox c (p + 1))] :=
  ⟨nx c p n, (nx_in hc hp hn).1, (nx_in hc hp hn).2, c_spec_l1Next c hc p n hp hp2⟩
theorem chanceE (c : List Int) (hc : okCode c) (p n : Int) (hp : 0 ≤ p) (hp2 : p ≤ 549755813888) : ∃ v : Bool, MutOK Tryd.prog 49 [.ptr 0 0, di n] 1 [(0, srcBox c p)] (dv (.bool v)) 1 [(0, srcBox c (p + 1))] :=
  ⟨_, c_spec_l1Chance c hc p n hp hp2⟩
attribute [irreducible] nx pk
def wd (c : List Int) (p : Int) : Int := pk c (p + 1 + 1 + 1 + 1) [nx c p 90, nx c (p + 1) 9, IntKind.i64.wrap (4294967295 - nx c (p + 1 + 1) 9), 2147483648, 2147483647, 0, IntKind.i64.wrap (nx c (p + 1 + 1 + 1) 60000 * 70000)]
theorem c_spec_l1Word (c : List Int) (hc : okCode c) (p : Int) (hp : 0 ≤ p) (hp2 : p ≤ 274877906944) : MutOK Tryd.prog 50 [.ptr 0 0] 1 [(0, srcBox c p)] (di (wd c p)) 1 [(0, srcBox c (p + 5))] := by
  refine mut_fn_of lv50 Tryd.func50 rfl rfl (by kernel_rfl) rfl [] ?_
  refine .inr ⟨rfl, use_mut ⟨_, _, _, _, _, _, rfl, rfl, c_spec_l1Next c hc p 90 (by omega) (by omega), rfl, ?_⟩⟩
  refine .inr ⟨rfl, use_mut ⟨_, _, _, _, _, _, rfl, rfl, c_spec_l1Next c hc (p + 1) 9 (by omega) (by omega), rfl, ?_⟩⟩
  refine .inr ⟨rfl, use_mut ⟨_, _, _, _, _, _, rfl, rfl, c_spec_l1Next c hc (p + 1 + 1) 9 (by omega) (by omega), rfl, ?_⟩⟩
  refine .inr ⟨rfl, use_mut ⟨_, _, _, _, _, _, rfl, rfl, c_spec_l1Next c hc (p + 1 + 1 + 1) 60000 (by omega) (by omega), rfl, ?_⟩⟩
  refine .inr ⟨rfl, use_mut ⟨_, _, _, _, _, _, rfl, rfl, c_spec_l1Pick c hc (p + 1 + 1 + 1 + 1) [nx c p 90, nx c (p + 1) 9, IntKind.i64.wrap (4294967295 - nx c (p + 1 + 1) 9), 2147483648, 2147483647, 0, IntKind.i64.wrap (nx c (p + 1 + 1 + 1) 60000 * 70000)] (by omega) (by omega) (by simp), rfl, ?_⟩⟩
  refine chk_intro (by kernel_rfl) ⟨tellV_v rfl rfl, tellHp_box rfl rfl ⟨DLe.refl _, congrArg (Value.int .i64) (by omega), trivial⟩ tellHp_nil⟩
attribute [irreducible] wd
def wi (c : List Int) (p : Int) : Int := pk c (p + 5 + 5 + 5) [wd c p, wd c (p + 5), wd c (p + 5 + 5), -1, -9223372036854775808, 9223372036854775807, 4294967296, -5]
theorem wordE (c : List Int) (hc : okCode c) (p : Int) (hp : 0 ≤ p) (hp2 : p ≤ 274877906944) : ∃ v, MutOK Tryd.prog 50 [.ptr 0 0] 1 [(0, srcBox c p)] (di v) 1 [(0, srcBox c (p + 5))] := ⟨_, c_spec_l1Word c hc p hp hp2⟩
attribute [irreducible] wi
end Go.Proofs.YtcllbnancmogfaaDoor.L

/- What the law functions compute on pages and lonely machines: contracts. -/
set_option linter.unusedVariables false
set_option linter.unusedSimpArgs false
set_option maxRecDepth 100000
namespace Go.Proofs.YtcllbnancmogfaaDoor.L
open Go.RowKit
abbrev pageLV (p : PageM) : LV := .agg [di p.to, di p.kinds]
theorem drop_consG {α : Type} (d : α) (l : List α) (i : Nat) (h : i < l.length) : l.drop i = l.getD i d :: l.drop (i + 1) :=
  (List.drop_eq_getElem_cons h).trans (by rw [show l[i] = l.getD i d by simp [List.getD, List.getElem?_eq_getElem h]])
end Go.Proofs.YtcllbnancmogfaaDoor.L

/- The law function over a machine that is rung answers true. -/
set_option linter.unusedVariables false
set_option linter.unusedSimpArgs false
set_option maxRecDepth 100000
namespace Go.Proofs.YtcllbnancmogfaaDoor.L
open Go.RowKit
theorem few_of_sz {m : HartM} (h : decide (hSz m 1048576 < 0) = false) : m.few := by
  simp only [decide_eq_false_iff_not] at h
  unfold hSz at h
  simp only at h
  split at h
  · omega
  · rename_i h2
    exact ⟨by omega, by omega, by omega, by omega⟩
theorem hartZ_few : hartZ.few ∧ hartZ.small := ⟨⟨by decide, by decide, by decide, by decide⟩, ⟨by decide, by decide, by decide, by decide⟩⟩
theorem ringHart_few (m : HartM) (hf : m.few) (hs : m.small) : (ringHart m).2.few ∧ (ringHart m).2.small := by
  unfold ringHart
  split
  · exact ⟨⟨hf.regs, hf.csr, hf.inp, hf.out⟩, ⟨hs.regs, hs.csr, hs.inp, hs.out⟩⟩
  · exact hartZ_few
end Go.Proofs.YtcllbnancmogfaaDoor.L

/- What the functions that look at a lonely machine compute: contracts. -/
set_option linter.unusedVariables false
set_option linter.unusedSimpArgs false
set_option maxRecDepth 100000
namespace Go.Proofs.YtcllbnancmogfaaDoor.L
open Go.RowKit
theorem LVLe.pre (xs ys : List D) : LVLe (.dptr (xs ++ ys)) (.dptr xs) := fun W F v hv => by
  cases hv with
  | dptr vs hs hI hc hr =>
    refine .dptr vs hs hI (fun j hj => hc j (by simp; omega)) (fun j hj => ?_)
    have := hr j (by simp; omega)
    have e : (xs ++ ys).getD j (.v undef) = xs.getD j (.v undef) := by simp [List.getD, List.getElem?_append, hj]
    rwa [e] at this
structure SoloM where
  hart : HartM
  pages : List PageM
  mem : List Int
  deriving DecidableEq
abbrev soloD (x : SoloM) : List D := [ints x.hart.regs, dI x.hart.pc, ints x.hart.csr, dB x.hart.halted, dB x.hart.waiting, dB x.hart.rung, dI x.hart.done, ints x.hart.inp, ints x.hart.out, Go.Proofs.YtcllbnancmogfaaDoor.L.pages x.pages, ints x.mem]
abbrev soloLV (x : SoloM) : LV := .agg [.d (ints x.hart.regs), di x.hart.pc, .d (ints x.hart.csr), dv (.bool x.hart.halted), dv (.bool x.hart.waiting), dv (.bool x.hart.rung), di x.hart.done, .d (ints x.hart.inp), .d (ints x.hart.out), .d (Go.Proofs.YtcllbnancmogfaaDoor.L.pages x.pages), .d (ints x.mem)]
structure SoloM.small (x : SoloM) : Prop where
  hart : x.hart.small
  pages : x.pages.length * 16 ≤ 140737488355328
  mem : x.mem.length * 8 ≤ 140737488355328
def soloFault (x : SoloM) : Int := if hFault x.hart = 0 then (if pagesFault x.pages 8 = 0 then (bif (memFault x.mem != 0) || ((x.mem.length : Int) != 64) then 1 else 0) else pagesFault x.pages 8) else hFault x.hart
theorem hSz_le (m : HartM) (h : ¬ hSz m 1048576 < 0) : 0 ≤ hSz m 1048576 ∧ hSz m 1048576 ≤ 1048576 := by
  refine ⟨by omega, ?_⟩
  unfold hSz
  simp only
  split <;> omega
end Go.Proofs.YtcllbnancmogfaaDoor.L

/- The law function over what is wrong with a lonely machine answers true; how one is read. -/
set_option linter.unusedVariables false
set_option linter.unusedSimpArgs false
set_option maxRecDepth 100000
namespace Go.Proofs.YtcllbnancmogfaaDoor.L
open Go.RowKit Go.ChangeShapes Go.WideShapes Go.ChangeAt
structure SoloM.ok (x : SoloM) : Prop where
  hart : x.hart.ok
  pages : x.pages.length * 16 ≤ reachBytes ∧ ∀ p ∈ x.pages, ok64 p.to ∧ ok64 p.kinds
  mem : okInts x.mem
theorem SoloM.ok.small {x : SoloM} (h : x.ok) : x.small := by
  have e := reach_eq
  have a := h.pages.1
  have b := h.mem.1
  exact ⟨h.hart.small, by omega, by omega⟩
end Go.Proofs.YtcllbnancmogfaaDoor.L

/- What the functions compute that read and write a machine's device page: contracts. -/
set_option linter.unusedVariables false
set_option linter.unusedSimpArgs false
set_option maxRecDepth 100000
namespace Go.Proofs.YtcllbnancmogfaaDoor.L
open Go.RowKit
theorem drop_ints (l : List Int) (k i : Nat) : intsF l (k + i) = intsF (l.drop k) i := by
  show [D.v (.int .i64 (l.getD (k + i) 0))] = [D.v (.int .i64 ((l.drop k).getD i 0))]
  simp [List.getD, List.getElem?_drop]
def readV (m : HartM) (k : Int) : Int := if k = 1 then m.inp.getD 0 0 else if k = 2 then m.done else if k = 3 then m.csr.getD 9 0 else if k = 4 then pend m else if k = 6 then m.inp.length else 0
def readM (m : HartM) (k : Int) : HartM := if k = 1 then { m with inp := m.inp.drop 1 } else m
abbrev hMemI (m : HartM) : List (Nat × Ent) := [(0, .box 29 (hartK m 1 2 5 4)), (1, rowE m.regs), (2, rowE m.csr), (5, rowE m.inp), (4, rowE m.out)]
abbrev hMemD (m : HartM) : List (Nat × Ent) := [(0, .box 29 [.row 1, di m.pc, .row 2, dv (.bool m.halted), dv (.bool m.waiting), dv (.bool m.rung), di m.done, .d (ints m.inp), .row 4]), (1, rowE m.regs), (2, rowE m.csr), (4, rowE m.out)]
theorem readM_ne {m : HartM} {k : Int} (h : k ≠ 1) : readM m k = m := if_neg h
def writeV (k w : Int) : Int := if k = 5 then wrapW w else -1
def writeM (m : HartM) (k w : Int) : HartM := if k = 0 then (if m.out.length < 40 then { m with out := m.out ++ [wrapW w] } else m) else if k = 3 then setM m 9 w else if k = 4 then setM m 6 w else m
theorem wrapW_wrapW (w : Int) : wrapW (wrapW w) = wrapW w := by unfold wrapW; omega
theorem setM_wrapW (m : HartM) (k w : Int) : setM m k (wrapW w) = setM m k w := by unfold setM; rw [wrapW_wrapW]
abbrev hMemO (m : HartM) : List (Nat × Ent) := [(0, .box 29 (hartK m 1 2 3 5)), (1, rowE m.regs), (2, rowE m.csr), (3, rowE m.inp), (5, rowE m.out)]
theorem app_ints (l : List Int) (w : Int) (i : Nat) : upto l.length (intsF l) (fun i => ([[D.v (.int .i64 w)]] : List (List D)).getD i []) i = intsF (l ++ [w]) i ∨ l.length + 1 ≤ i := by
  rcases Nat.lt_or_ge i (l.length + 1) with h | h
  · refine .inl ?_
    unfold upto
    show _ = [D.v (.int .i64 ((l ++ [w]).getD i 0))]
    split
    · rename_i h; show [D.v (.int .i64 (l.getD i 0))] = _; simp [List.getD, List.getElem?_append, h]
    · have : i = l.length := by omega
      subst this
      simp [List.getD]
  · exact .inr h
theorem app_ints' (l : List Int) (w : Int) (i : Nat) (h : i < l.length + 1) : upto l.length (intsF l) (fun i => ([[D.v (.int .i64 w)]] : List (List D)).getD i []) i = intsF (l ++ [w]) i := (app_ints l w i).resolve_right (by omega)
theorem one_len (v : Int) (i : Nat) (hi : i < 1) : (([[D.v (.int .i64 v)]] : List (List D)).getD i []).length = 1 := by
  obtain rfl : i = 0 := by omega
  rfl
end Go.Proofs.YtcllbnancmogfaaDoor.L

/- What the functions compute that tell the words of a page: contracts. -/
set_option linter.unusedVariables false
set_option linter.unusedSimpArgs false
set_option maxRecDepth 100000
namespace Go.Proofs.YtcllbnancmogfaaDoor.L
open Go.RowKit
def pageW (m : List Int) (p : Int) : List Int := (m.drop (p * 8).toNat).take 8
theorem pageW_len (m : List Int) (p : Int) (hp : 0 ≤ p) (h : (p + 1) * 8 ≤ m.length) : (pageW m p).length = 8 := by
  unfold pageW
  rw [List.length_take, List.length_drop]
  omega
theorem pageW_D (m : List Int) (p : Int) (hp : 0 ≤ p) (h : (p + 1) * 8 ≤ m.length) : DLe (.l (((p + 1) * 8 - p * 8)).toNat (fun i => intsF m ((p * 8).toNat + i))) (ints (pageW m p)) := by
  refine DLe.l (by rw [pageW_len m p hp h]; omega) (fun i hi => ?_)
  show [D.v (.int .i64 (m.getD ((p * 8).toNat + i) 0))] = [D.v (.int .i64 ((pageW m p).getD i 0))]
  unfold pageW
  have hi8 : i < 8 := by omega
  simp [List.getD, List.getElem?_take, hi8, List.getElem?_drop]
def wordsL (m : List Int) (ps : List Int) : List Int := ps.flatMap (pageW m)
theorem wordsL_len (m : List Int) : ∀ (ps : List Int), (∀ p ∈ ps, 0 ≤ p ∧ (p + 1) * 8 ≤ m.length) → (wordsL m ps).length = 8 * ps.length
  | [], _ => rfl
  | p :: ps, h => by
    have h1 := h p (by simp)
    have h2 := wordsL_len m ps (fun q hq => h q (by simp [hq]))
    unfold wordsL at h2 ⊢
    rw [List.flatMap_cons, List.length_append, pageW_len m p h1.1 h1.2, h2]
    simp; omega
theorem upto_app (a b : List Int) (g : Nat → List D) (hg : ∀ j, j < b.length → g j = intsF b j) (i : Nat) (h : i < a.length + b.length) : upto a.length (intsF a) g i = intsF (a ++ b) i := by
  rw [← upto_ints]
  unfold upto
  split
  · rfl
  · exact hg _ (by omega)
end Go.Proofs.YtcllbnancmogfaaDoor.L

/- What the functions compute that walk through pages: contracts. -/
set_option linter.unusedVariables false
set_option linter.unusedSimpArgs false
set_option maxRecDepth 100000
namespace Go.Proofs.YtcllbnancmogfaaDoor.L
open Go.RowKit
/-! ## the first place in a list for which something holds -/
def idxG {α : Type} (p : α → Bool) (l : List α) (i : Nat) : Int := bif (l.drop i).any p then (((l.drop i).findIdx p + i : Nat) : Int) else -1
theorem getD_at {α : Type} {l : List α} {i : Nat} (d : α) (h : i < l.length) : l.getD i d = l[i] := by simp [List.getD, List.getElem?_eq_getElem h]
theorem drop_anyG {α : Type} (d : α) (l : List α) (p : α → Bool) (i : Nat) (h : i < l.length) : (l.drop i).any p = (p (l.getD i d) || (l.drop (i + 1)).any p) := by
  rw [List.drop_eq_getElem_cons h, List.any_cons, getD_at d h]
theorem idxG_hit {α : Type} (d : α) {l : List α} {p : α → Bool} {i : Nat} (h : i < l.length) (hp : p (l.getD i d) = true) : idxG p l i = i := by
  unfold idxG
  rw [drop_anyG d l p i h, hp, List.drop_eq_getElem_cons h]
  rw [getD_at d h] at hp
  rw [List.findIdx_cons, hp]
  simp
theorem idxG_miss {α : Type} (d : α) {l : List α} {p : α → Bool} {i : Nat} (h : i < l.length) (hp : p (l.getD i d) = false) : idxG p l i = idxG p l (i + 1) := by
  unfold idxG
  rw [drop_anyG d l p i h, hp, Bool.false_or, List.drop_eq_getElem_cons h]
  rw [getD_at d h] at hp
  cases (List.drop (i + 1) l).any p with
  | false => rfl
  | true =>
    simp only [cond_true, List.findIdx_cons, hp, cond_false]
    omega
theorem idxG_end {α : Type} {l : List α} {p : α → Bool} {i : Nat} (h : l.length ≤ i) : idxG p l i = -1 := by
  unfold idxG
  rw [List.drop_eq_nil_of_le h]; rfl
theorem idxG_any {α : Type} (l : List α) (p : α → Bool) : decide (idxG p l 0 ≥ 0) = l.any p := by
  unfold idxG
  rw [List.drop_zero]
  cases l.any p <;> simp
/-! ## where a place leads -/
abbrev andI (a b : Int) : Int := IntKind.i64.wrap (BitVec.ofInt 64 a &&& BitVec.ofInt 64 b).toNat
def pageAt (l : List PageM) (at_ : Int) : PageM := l.getD (IntKind.i64.wrap (Int.tdiv at_ 8)).toNat ⟨0, 0⟩
/-- -1: nowhere -/
def walkP (l : List PageM) (at_ kind : Int) : Int :=
  bif !inR at_ 0 63 then -1 else bif decide ((pageAt l at_).to < 0) || (andI (pageAt l at_).kinds kind == 0) then -1 else IntKind.i64.wrap (IntKind.i64.wrap ((pageAt l at_).to * 8) + Int.tmod at_ 8)
theorem div8 {a : Int} (h : 0 ≤ a) (h2 : a ≤ 63) : IntKind.i64.wrap (Int.tdiv a 8) = Int.tdiv a 8 ∧ 0 ≤ Int.tdiv a 8 ∧ Int.tdiv a 8 ≤ 7 := by
  have h3 : Int.tdiv a 8 = a / 8 := Int.tdiv_eq_ediv_of_nonneg h
  rw [h3]
  exact ⟨wrap_i64 _ (by omega) (by omega), by omega, by omega⟩
def kindC (k : Int) : Int := if k = 1 then 7 else if k = 2 then 8 else if k = 4 then 9 else 0
def kindOk (k : Int) : Bool := (k == 1) || ((k == 2) || (k == 4))
theorem kindC_ok (k : Int) : (kindC k == 0) = !kindOk k := by
  unfold kindC kindOk
  by_cases h1 : k = 1
  · subst h1; rfl
  by_cases h2 : k = 2
  · subst h2; rfl
  by_cases h4 : k = 4
  · subst h4; rfl
  simp [h1, h2, h4]
/-- where a place leads, with a code -/
def walkI (l : List PageM) (at_ kind : Int) : Int × Int := if walkP l at_ kind < 0 then (kindC kind, 0) else (0, walkP l at_ kind)
structure PgsOK (l : List PageM) (top : Int) : Prop where
  len : l.length = 8
  at_ : ∀ p ∈ l, -1 ≤ p.to ∧ p.to < top ∧ 0 ≤ p.kinds ∧ p.kinds ≤ 7
theorem PgsOK.get {l : List PageM} {top : Int} (h : PgsOK l top) {i : Nat} (hi : i < 8) : -1 ≤ (l.getD i ⟨0, 0⟩).to ∧ (l.getD i ⟨0, 0⟩).to < top := by
  rw [getD_at _ (by rw [h.len]; exact hi)]
  have := h.at_ _ (List.getElem_mem (by rw [h.len]; exact hi : i < l.length))
  exact ⟨this.1, this.2.1⟩
theorem walk_get {l : List PageM} {top at_ : Int} (h : PgsOK l top) (ht : top ≤ 24) (ha : inR at_ 0 63 = true) (h0 : ¬ (pageAt l at_).to < 0) :
    IntKind.i64.wrap (IntKind.i64.wrap ((pageAt l at_).to * 8) + Int.tmod at_ 8) = (pageAt l at_).to * 8 + Int.tmod at_ 8 ∧ 0 ≤ (pageAt l at_).to * 8 + Int.tmod at_ 8 ∧ (pageAt l at_).to * 8 + Int.tmod at_ 8 < top * 8 := by
  have h2 := inR_iff.1 ha
  obtain ⟨e1, e2, e3⟩ := div8 h2.1 h2.2
  have h3 : Int.tmod at_ 8 = at_ % 8 := Int.tmod_eq_emod_of_nonneg h2.1
  have h4 : (pageAt l at_).to < top := (h.get (by rw [e1]; omega)).2
  have e4 : IntKind.i64.wrap ((pageAt l at_).to * 8) = (pageAt l at_).to * 8 := wrap_i64 _ (by omega) (by omega)
  rw [e4, h3]
  exact ⟨wrap_i64 _ (by omega) (by omega), by omega, by omega⟩
end Go.Proofs.YtcllbnancmogfaaDoor.L

/- Policies: what the law functions compute on them (to, size, equality): contracts. -/
set_option linter.unusedVariables false
set_option linter.unusedSimpArgs false
set_option maxRecDepth 100000
namespace Go.Proofs.YtcllbnancmogfaaDoor.L
open Go.RowKit
structure LaneM where
  frm : Int
  to : Int
  page : Int
  af : Int
  at_ : Int
  deriving DecidableEq
abbrev laneD (p : LaneM) : List D := [dI p.frm, dI p.to, dI p.page, dI p.af, dI p.at_]
abbrev laneLV (p : LaneM) : LV := .agg [di p.frm, di p.to, di p.page, di p.af, di p.at_]
abbrev lanesF (l : List LaneM) (i : Nat) : List D := laneD (l.getD i ⟨0, 0, 0, 0, 0⟩)
abbrev lanes (l : List LaneM) : D := .l l.length (lanesF l)
structure BellM where
  frm : Int
  to : Int
  deriving DecidableEq
abbrev bellD (p : BellM) : List D := [dI p.frm, dI p.to]
abbrev bellLV (p : BellM) : LV := .agg [di p.frm, di p.to]
abbrev bellsF (l : List BellM) (i : Nat) : List D := bellD (l.getD i ⟨0, 0⟩)
abbrev bells (l : List BellM) : D := .l l.length (bellsF l)
structure SlotM where
  guest : Int
  steps : Int
  deriving DecidableEq
abbrev slotD (p : SlotM) : List D := [dI p.guest, dI p.steps]
abbrev slotLV (p : SlotM) : LV := .agg [di p.guest, di p.steps]
abbrev slotsF (l : List SlotM) (i : Nat) : List D := slotD (l.getD i ⟨0, 0⟩)
abbrev slots (l : List SlotM) : D := .l l.length (slotsF l)
end Go.Proofs.YtcllbnancmogfaaDoor.L

/- Policies: read, measured, compared: contracts. -/
set_option linter.unusedVariables false
set_option linter.unusedSimpArgs false
set_option maxRecDepth 100000
namespace Go.Proofs.YtcllbnancmogfaaDoor.L
open Go.RowKit
abbrev ownsF (l : List (List Int)) (i : Nat) : List D := [ints (l.getD i [])]
abbrev owns (l : List (List Int)) : D := .l l.length (ownsF l)
abbrev lenF (l : List (List Int)) (i : Nat) : Nat := (l.getD i []).length
abbrev inF (l : List (List Int)) (i j : Nat) : List D := intsF (l.getD i []) j
abbrev oOwns (l : List (List Int)) : RC := .ownn 22 2 1 l.length (lenF l) (inF l)
def sumN (l : List (List Int)) : Nat := (l.map List.length).sum
theorem sumN_take (l : List (List Int)) (i : Nat) (h : i < l.length) : sumN (l.take (i + 1)) = sumN (l.take i) + (l.getD i []).length := by
  unfold sumN
  rw [List.take_succ_eq_append_getElem h, List.map_append, List.sum_append, getD_at _ h]
  simp
theorem sumN_le (l : List (List Int)) (i : Nat) : sumN (l.take i) ≤ sumN l := by
  unfold sumN
  conv => rhs; rw [← List.take_append_drop i l, List.map_append, List.sum_append]
  omega
theorem sumN_get (l : List (List Int)) (i : Nat) (h : i < l.length) : (l.getD i []).length ≤ sumN l := by
  have := sumN_take l i h
  have := sumN_le l (i + 1)
  omega
def szO (l : List (List Int)) (q : Int) : Int := if q - (l.length + sumN l : Nat) < 0 then -1 else q - (l.length + sumN l : Nat)
/-! ## a policy -/
structure PolM where
  own : List (List Int)
  lns : List LaneM
  bls : List BellM
  pln : List SlotM
  deriving DecidableEq
abbrev polD (x : PolM) : List D := [owns x.own, lanes x.lns, bells x.bls, slots x.pln]
abbrev polLV (x : PolM) : LV := .agg [.d (owns x.own), .d (lanes x.lns), .d (bells x.bls), .d (slots x.pln)]
structure PolM.small (x : PolM) : Prop where
  own : x.own.length * 24 ≤ 140737488355328
  ins : ∀ i, i < x.own.length → (x.own.getD i []).length * 8 ≤ 140737488355328
  lns : x.lns.length * 40 ≤ 140737488355328
  bls : x.bls.length * 16 ≤ 140737488355328
  pln : x.pln.length * 16 ≤ 140737488355328
/-- how many things a policy has -/
def PolM.size (x : PolM) : Nat := x.own.length + sumN x.own + x.lns.length + x.bls.length + x.pln.length
def szP (x : PolM) (q : Int) : Int := if q - (x.size : Int) < 0 then -1 else q - (x.size : Int)
end Go.Proofs.YtcllbnancmogfaaDoor.L

/- What is wrong with a policy: the small functions: contracts. -/
set_option linter.unusedVariables false
set_option linter.unusedSimpArgs false
set_option maxRecDepth 100000
namespace Go.Proofs.YtcllbnancmogfaaDoor.L
open Go.RowKit
theorem beqc (v : Int) : (fun a : Int => v == a) = fun a => a == v := funext fun a => by
  by_cases h : v = a
  · subst h; rfl
  · rw [beq_eq_false_iff_ne.2 h, beq_eq_false_iff_ne.2 (Ne.symm h)]
abbrev hasI (l : List Int) (v : Int) : Bool := l.any fun a => a == v
theorem wrap1 {i n : Nat} (h : i < n) (hn : n ≤ 4611686018427387904) : IntKind.i64.wrap ((i : Int) + 1) = ((i + 1 : Nat) : Int) := wrap_i64 (i + 1) (by omega) (by omega)
theorem bellBeq (b : BellM) : (fun a : BellM => [b.frm, b.to] == [a.frm, a.to]) = fun a => a == b := funext fun a => by
  by_cases h : a = b
  · subst h; simp
  · rw [beq_eq_false_iff_ne.2 h]
    refine beq_eq_false_iff_ne.2 (fun e => h ?_)
    obtain ⟨a1, a2⟩ := a; obtain ⟨b1, b2⟩ := b
    simp only [List.cons.injEq, and_true] at e
    rw [e.1, e.2]
/-! ## guests, owners, ends -/
abbrev polP (x : PolM) : LV := .dptr (polD x)
def guestB (n : Nat) (g : Int) : Bool := inR g 0 ((n : Int) - 1)
theorem wrapm {n : Nat} (hn : n ≤ 4611686018427387904) : IntKind.i64.wrap ((n : Int) - 1) = (n : Int) - 1 := wrap_i64 _ (by omega) (by omega)
def ownerP (l : List (List Int)) (v : Int) : Int := idxG (fun r => hasI r v) l 0
def endsF (n : Nat) (a b : Int) : Int := bif !guestB n a || !guestB n b then 4 else bif a == b then 1 else 0
end Go.Proofs.YtcllbnancmogfaaDoor.L

/- What is due to a machine: contracts. -/
set_option linter.unusedVariables false
set_option linter.unusedSimpArgs false
set_option maxRecDepth 100000
namespace Go.Proofs.YtcllbnancmogfaaDoor.L
open Go.RowKit
abbrev andW (a b : Int) : Int := IntKind.i64.wrap (BitVec.ofInt 64 a &&& BitVec.ofInt 64 b).toNat
def tzI (w : Int) : Int := if w = 1 ∨ w = 3 ∨ w = 5 ∨ w = 7 then 0 else if w = 2 ∨ w = 6 then 1 else 2
theorem w8 {P : Int → Prop} (h : P 0 ∧ P 1 ∧ P 2 ∧ P 3 ∧ P 4 ∧ P 5 ∧ P 6 ∧ P 7) (w : Int) (h0 : 0 ≤ w) (h1 : w ≤ 7) : P w := by
  obtain ⟨a0, a1, a2, a3, a4, a5, a6, a7⟩ := h
  have : w = 0 ∨ w = 1 ∨ w = 2 ∨ w = 3 ∨ w = 4 ∨ w = 5 ∨ w = 6 ∨ w = 7 := by omega
  rcases this with rfl | rfl | rfl | rfl | rfl | rfl | rfl | rfl <;> assumption
theorem and_b (a b : Int) (ha : 0 ≤ a) (ha2 : a ≤ 7) (hb : 0 ≤ b) (hb2 : b ≤ 7) : 0 ≤ andW a b ∧ andW a b ≤ 7 :=
  w8 (P := fun a => 0 ≤ andW a b ∧ andW a b ≤ 7) ⟨w8 (P := fun b => 0 ≤ andW 0 b ∧ andW 0 b ≤ 7) (by decide) b hb hb2, w8 (P := fun b => 0 ≤ andW 1 b ∧ andW 1 b ≤ 7) (by decide) b hb hb2, w8 (P := fun b => 0 ≤ andW 2 b ∧ andW 2 b ≤ 7) (by decide) b hb hb2, w8 (P := fun b => 0 ≤ andW 3 b ∧ andW 3 b ≤ 7) (by decide) b hb hb2, w8 (P := fun b => 0 ≤ andW 4 b ∧ andW 4 b ≤ 7) (by decide) b hb hb2, w8 (P := fun b => 0 ≤ andW 5 b ∧ andW 5 b ≤ 7) (by decide) b hb hb2, w8 (P := fun b => 0 ≤ andW 6 b ∧ andW 6 b ≤ 7) (by decide) b hb hb2, w8 (P := fun b => 0 ≤ andW 7 b ∧ andW 7 b ≤ 7) (by decide) b hb hb2⟩ a ha ha2
theorem arrT64 : ArrT Tryd.prog 69 64 := by
  have h : (Tryd.prog.info? 5).map (·.size) = some 1 := by kernel_rfl
  cases hi : Tryd.prog.info? 5 with
  | none => rw [hi] at h; simp at h
  | some i =>
    rw [hi] at h
    exact ⟨5, i, by kernel_rfl, hi, by simpa using h⟩
theorem c_bits_TrailingZeros64 (n : Int) (h0 : 1 ≤ n) (h1 : n ≤ 7) : FnOK Tryd.prog 43 [.d (.v (.int .u64 n))] (ri (tzI n)) := by
  have : n = 1 ∨ n = 2 ∨ n = 3 ∨ n = 4 ∨ n = 5 ∨ n = 6 ∨ n = 7 := by omega
  rcases this with rfl | rfl | rfl | rfl | rfl | rfl | rfl
  all_goals
    refine fn_of lv43 Tryd.func43 rfl rfl (by kernel_rfl) rfl ?_
    refine bsplit_of_false (by decide) ?_
    refine ask_intro (by decide) ?_
    refine ask_intro ⟨arrT64, by decide +kernel, by decide +kernel⟩ ?_
    exact ⟨⟨congrArg (Value.int .i64) (by decide +kernel), trivial⟩, rfl⟩
/-- the lowest bit that is due, or -1 -/
def dueI (s w : Int) : Int := if s.tmod 2 = 0 then -1 else if w = 0 then -1 else tzI w
theorem c_impl_Hart_due (m : HartM) (hc : m.csr.length = 11) (w : Int) (hw : w = andW (pend m) (m.csr.getD 7 0)) (h0 : 0 ≤ w) (h1 : w ≤ 7) : FnOK Tryd.prog 23 [.dptr (hartD m)] (ri (dueI (m.csr.getD 0 0) w)) := by
  have c1 := c_impl_Hart_pending m hc
  have ew : IntKind.u64.wrap w = w := by rw [IntKind.wrap_u64]; omega
  have hcl : (0 : Int) < (m.csr.length : Int) := by omega
  have hcl7 : (7 : Int) < (m.csr.length : Int) := by omega
  have c3 : 1 ≤ w → FnOK Tryd.prog 43 [.d (.v (.int .u64 (IntKind.u64.wrap (andW (pend m) (m.csr.getD 7 0)))))] (ri (tzI w)) := fun h => by rw [← hw, ew]; exact c_bits_TrailingZeros64 w h h1
  obtain ⟨r, hr⟩ : ∃ r, r = dueI (m.csr.getD 0 0) w := ⟨_, rfl⟩
  rw [← hr]
  unfold dueI at hr
  by_cases hs : (m.csr.getD 0 0).tmod 2 = 0
  · rw [if_pos hs] at hr
    subst hr
    refine fn_of lv23 Tryd.func23 rfl rfl (by kernel_rfl) rfl ?_
    refine .inl ⟨_, _, rfl, c1, rfl, ?_⟩
    refine ask_intro ⟨by omega, by show (7 : Int) < (m.csr.length : Int); omega, rfl⟩ ?_
    refine chk_intro (by kernel_rfl) ?_
    refine ask_intro ⟨by omega, by show (0 : Int) < (m.csr.length : Int); omega, rfl⟩ ?_
    refine ask_intro (by decide) ?_
    refine bsplit_of_true (beq_iff_eq.2 hs) ?_
    repeat' (first | refine bsplit_true ?_ | refine bsplit_false ?_)
    exact ⟨⟨rfl, trivial⟩, rfl⟩
  rw [if_neg hs] at hr
  by_cases hz : w = 0
  · rw [if_pos hz] at hr
    subst hr
    refine fn_of lv23 Tryd.func23 rfl rfl (by kernel_rfl) rfl ?_
    refine .inl ⟨_, _, rfl, c1, rfl, ?_⟩
    refine ask_intro ⟨by omega, by show (7 : Int) < (m.csr.length : Int); omega, rfl⟩ ?_
    refine chk_intro (by kernel_rfl) ?_
    refine ask_intro ⟨by omega, by show (0 : Int) < (m.csr.length : Int); omega, rfl⟩ ?_
    refine ask_intro (by decide) ?_
    refine bsplit_of_false (beq_eq_false_iff_ne.2 hs) ?_
    repeat' (first | refine bsplit_true ?_ | refine bsplit_false ?_)
    refine bsplit_of_true (show (andW (pend m) (m.csr.getD 7 0) == 0) = true by rw [← hw, hz]; rfl) ?_
    exact ⟨⟨rfl, trivial⟩, rfl⟩
  rw [if_neg hz] at hr
  subst hr
  have c3 := c3 (by omega)
  refine fn_of lv23 Tryd.func23 rfl rfl (by kernel_rfl) rfl ?_
  refine .inl ⟨_, _, rfl, c1, rfl, ?_⟩
  refine ask_intro ⟨by omega, by show (7 : Int) < (m.csr.length : Int); omega, rfl⟩ ?_
  refine chk_intro (by kernel_rfl) ?_
  refine ask_intro ⟨by omega, by show (0 : Int) < (m.csr.length : Int); omega, rfl⟩ ?_
  refine ask_intro (by decide) ?_
  refine bsplit_of_false (beq_eq_false_iff_ne.2 hs) ?_
  repeat' (first | refine bsplit_true ?_ | refine bsplit_false ?_)
  refine bsplit_of_false (show (andW (pend m) (m.csr.getD 7 0) == 0) = false by rw [← hw]; exact beq_eq_false_iff_ne.2 hz) ?_
  refine .inl ⟨_, _, rfl, c3, rfl, ?_⟩
  exact ⟨⟨rfl, trivial⟩, rfl⟩
/-- as the reference counts: bit by bit -/
def bitW (w : Int) (k : Nat) : Int := andW (w.fdiv (2 ^ (min (IntKind.u64.wrap (k : Int)).toNat IntKind.i64.bits))) 1
def specR (w : Int) : Nat → Nat → Int
  | 0, _ => -1
  | f + 1, k => if bitW w k = 1 then (k : Int) else specR w f (k + 1)
theorem specR_eq (w : Int) (h0 : 0 ≤ w) (h1 : w ≤ 7) : specR w 3 0 = if w = 0 then -1 else tzI w :=
  w8 (P := fun w => specR w 3 0 = if w = 0 then -1 else tzI w) (by decide +kernel) w h0 h1
theorem c_spec_l8Due (m : HartM) (hc : m.csr.length = 11) (w : Int) (hw : w = andW (pend m) (m.csr.getD 7 0)) (h0 : 0 ≤ w) (h1 : w ≤ 7) : FnOK Tryd.prog 21 [.dptr (hartD m)] (ri (dueI (m.csr.getD 0 0) w)) := by
  have c1 := c_spec_l8Pending m hc
  have hcl : (0 : Int) < (m.csr.length : Int) := by omega
  have hcl7 : (7 : Int) < (m.csr.length : Int) := by omega
  obtain ⟨r, hr⟩ : ∃ r, r = dueI (m.csr.getD 0 0) w := ⟨_, rfl⟩
  rw [← hr]
  unfold dueI at hr
  by_cases hs : (m.csr.getD 0 0).tmod 2 = 0
  · rw [if_pos hs] at hr
    subst hr
    refine fn_of lv21 Tryd.func21 rfl rfl (by kernel_rfl) rfl ?_
    refine .inl ⟨_, _, rfl, c1, rfl, ?_⟩
    refine ask_intro ⟨by omega, by show (7 : Int) < (m.csr.length : Int); omega, rfl⟩ ?_
    refine chk_intro (by kernel_rfl) ?_
    refine ask_intro ⟨by omega, by show (0 : Int) < (m.csr.length : Int); omega, rfl⟩ ?_
    refine ask_intro (by decide) ?_
    refine bsplit_of_true (beq_iff_eq.2 hs) ?_
    exact ⟨⟨rfl, trivial⟩, rfl⟩
  rw [if_neg hs, ← specR_eq w h0 h1] at hr
  refine fn_of lv21 Tryd.func21 rfl rfl (by kernel_rfl) rfl ?_
  refine .inl ⟨_, _, rfl, c1, rfl, ?_⟩
  refine ask_intro ⟨by omega, by show (7 : Int) < (m.csr.length : Int); omega, rfl⟩ ?_
  refine chk_intro (by kernel_rfl) ?_
  refine ask_intro ⟨by omega, by show (0 : Int) < (m.csr.length : Int); omega, rfl⟩ ?_
  refine ask_intro (by decide) ?_
  refine bsplit_of_false (beq_eq_false_iff_ne.2 hs) ?_
  refine ⟨{ k : Nat // k ≤ 3 ∧ specR w (3 - k) k = r }, fun k => ⟨frL [(3, di w), (4, di k.1)], hpL [], 97, 0⟩, fun k => 3 - k.1, ⟨0, by omega, hr.symm⟩,
    le_of [] rfl rfl rfl rfl trivial (tellFr_v rfl (congrArg (Value.int .i64) hw.symm) (tellFr_v rfl rfl trivial)), ?_⟩
  rintro ⟨k, hk, hall⟩
  by_cases h2 : k < 3
  · have hwk := congrArg (Value.int .i64) (wrap1 h2 (by omega))
    obtain ⟨f, hf⟩ : ∃ f, 3 - k = f + 1 := ⟨2 - k, by omega⟩
    have hf2 : f = 3 - (k + 1) := by omega
    rw [hf] at hall
    simp only [specR] at hall
    refine bsplit_of_true (decide_eq_true (show (k : Int) < 3 by omega)) ?_
    refine ask_intro (by rw [IntKind.wrap_u64]; omega) ?_
    by_cases hb : bitW w k = 1
    · rw [if_pos hb] at hall
      refine bsplit_of_true (beq_iff_eq.2 hb) ?_
      exact ⟨⟨congrArg (Value.int .i64) hall, trivial⟩, rfl⟩
    · rw [if_neg hb, hf2] at hall
      refine bsplit_of_false (beq_eq_false_iff_ne.2 hb) ?_
      exact ⟨⟨k + 1, by omega, hall⟩, le_of [] rfl rfl rfl rfl trivial (tellFr_v rfl rfl (tellFr_v rfl hwk trivial)), by show 3 - (k + 1) < 3 - k; omega⟩
  · obtain rfl : k = 3 := by omega
    have hall : (-1 : Int) = r := hall
    refine bsplit_of_false (decide_eq_false (show ¬ ((3 : Nat) : Int) < 3 by omega)) ?_
    exact ⟨⟨congrArg (Value.int .i64) hall, trivial⟩, rfl⟩
end Go.Proofs.YtcllbnancmogfaaDoor.L

/- What the functions compute that draw a machine: contracts. -/
set_option linter.unusedVariables false
set_option linter.unusedSimpArgs false
set_option maxRecDepth 100000
namespace Go.Proofs.YtcllbnancmogfaaDoor.L
open Go.RowKit
structure HartM.drawn (m : HartM) : Prop where
  regs : m.regs.length = 16
  csr : m.csr.length = 11
  inp : m.inp.length ≤ 2
  out : m.out.length ≤ 40
abbrev hartN : List LV := [dv (.slice none 0 0), di 0, dv (.slice none 0 0), dv (.bool false), dv (.bool false), dv (.bool false), di 0, dv (.slice none 0 0), dv (.slice none 0 0)]
abbrev drawMem (c : List Int) (m : HartM) (p : Int) : List (Nat × Ent) := [(0, srcBox c p), (10, .box 29 hartN), (11, .box 29 (hartK m 12 13 14 15)), (12, rowE m.regs), (13, rowE m.csr), (14, rowE m.inp), (15, rowE m.out)]
theorem setM_drawn {m : HartM} (h : m.drawn) (k w : Int) : (setM m k w).drawn := by
  obtain ⟨h1, h2, h3, h4⟩ := h
  unfold setM setCsrL
  (repeat' split) <;> exact ⟨by simpa using h1, by simpa using h2, by simpa using h3, by simpa using h4⟩
set_option maxHeartbeats 2000000 in
theorem c_spec_l8Hart (c : List Int) (hc : okCode c) (p : Int) (hp : 0 ≤ p) (hp2 : p ≤ 1099511627) : MutS Tryd.prog 44 [.ptr 0 0] 1 [(0, srcBox c p)]
    (fun lv m' hp1 => ∃ (m : HartM) (q : Int), m.drawn ∧ p ≤ q ∧ q ≤ p + 1000 ∧ lv = .agg (hartK m 1 2 3 4) ∧ m' = 5 ∧ hp1 = [(0, srcBox c q), (1, rowE m.regs), (2, rowE m.csr), (3, rowE m.inp), (4, rowE m.out)]) := by
  refine mutS_fn_of lv44 Tryd.func44 rfl rfl (by kernel_rfl) rfl ?_
  obtain ⟨k, h3, h3', hk⟩ := nextE c hc p 3 (by omega) (by omega) (by omega)
  refine .inr ⟨rfl, use_mut ⟨_, _, _, _, _, _, rfl, rfl, hk, rfl, ?_⟩⟩
  have hl : (([7, 8] : List Int).take k.toNat).length = k.toNat := by simp; omega
  refine ask_intro ⟨by omega, by omega, by show k ≤ 2; omega, .inl rfl⟩ ?_
  have hnh : (newHart (([7, 8] : List Int).take k.toNat)).2.drawn := by
    have : k = 0 ∨ k = 1 ∨ k = 2 := by omega
    rcases this with rfl | rfl | rfl <;> exact ⟨by decide, by decide, by decide, by decide⟩
  have hlit : DLe (.l (k - 0).toNat (litD [7, 8])) (ints (([7, 8] : List Int).take k.toNat)) := DLe.l (by rw [hl]; omega) (fun i hi => by
    rw [litD_eq _ _ (by simp; omega)]
    show [D.v (.int .i64 (([7, 8] : List Int).getD i 0))] = [D.v (.int .i64 ((([7, 8] : List Int).take k.toNat).getD i 0))]
    simp only [List.getD, List.getElem?_take]
    rw [if_pos (by omega)])
  refine .inl ⟨_, _, rfl, (c_spec_NewHart (([7, 8] : List Int).take k.toNat) (by rw [hl]; omega)).weak ⟨LVLe.d hlit, trivial⟩, rfl, ?_⟩
  generalize newHart (([7, 8] : List Int).take k.toNat) = q0 at *
  refine ⟨{ x : Nat × HartM × Int // 1 ≤ x.1 ∧ x.1 ≤ 16 ∧ x.2.1.drawn ∧ p + 1 ≤ x.2.2 ∧ x.2.2 ≤ p + 1 + 20 * x.1 }, fun x => ⟨frL [(0, .ptr 0 0), (2, .ptr 10 0), (3, .ptr 11 0), (4, di x.1.1)], hpL (drawMem c x.1.2.1 x.1.2.2), 100, 1⟩, fun x => 16 - x.1.1, ⟨(1, q0.2, p + 1), by omega, by omega, hnh, by show p + 1 ≤ p + 1; omega, by show p + 1 ≤ p + 1 + 20 * ((1 : Nat) : Int); omega⟩,
    le_of [(10, 1), (11, 4289), (12, 4226), (13, 4228), (14, 4233), (15, 4234)] rfl rfl rfl rfl
      (tellHp_box rfl rfl ⟨DLe.refl _, rfl, trivial⟩ (tellHp_box rfl rfl ⟨rfl, rfl, rfl, rfl, rfl, rfl, rfl, rfl, rfl, trivial⟩ (tellHp_box rfl rfl ⟨rfl, rfl, rfl, rfl, rfl, rfl, rfl, rfl, rfl, trivial⟩ (tellHp_row rfl rfl rfl (fun j hj => rfl) (tellHp_row rfl rfl rfl (fun j hj => rfl) (tellHp_row rfl rfl rfl (fun j hj => rfl) (tellHp_row rfl rfl rfl (fun j hj => rfl) tellHp_nil)))))))
      (tellFr_ptr rfl rfl (tellFr_ptr rfl rfl (tellFr_ptr rfl rfl (tellFr_v rfl rfl trivial)))), ?_⟩
  rintro ⟨⟨i, m, q⟩, h1, h16, hd, hq1, hq2⟩
  simp only at h1 h16 hd hq1 hq2
  refine bsplit_intro (fun hb => ?_) (fun hb => ?_)
  · have hi : i < 16 := by simp at hb; omega
    obtain ⟨v0, hv0⟩ := chanceE c hc q 3 (by omega) (by omega)
    refine .inr ⟨rfl, use_mut ⟨_, _, _, _, _, _, rfl, rfl, hv0, rfl, ?_⟩⟩
    have hw : IntKind.i64.wrap ((i : Int) + 1) = ((i + 1 : Nat) : Int) := wrap_i64 (i + 1) (by omega) (by omega)
    refine bsplit_intro (fun hb2 => ?_) (fun hb2 => ?_)
    · obtain ⟨v1, hv1⟩ := wordE c hc (q + 1) (by omega) (by omega)
      obtain ⟨v2, _, _, hv2⟩ := nextE c hc (q + 1 + 5) 64 (by omega) (by omega) (by omega)
      obtain ⟨v3, _, _, hv3⟩ := nextE c hc (q + 1 + 5 + 1) 8 (by omega) (by omega) (by omega)
      obtain ⟨v, _, hP⟩ := pickE c hc (q + 1 + 5 + 1 + 1) [v1, v2, IntKind.i64.wrap (56 + v3)] (by omega) (by omega) (by simp)
      refine .inr ⟨_, _, use_mut ⟨_, _, _, _, _, _, rfl, rfl, hv1, rfl, ⟨rfl, rfl⟩⟩, ?_⟩
      refine .inr ⟨_, _, use_mut ⟨_, _, _, _, _, _, rfl, rfl, hv2, rfl, ⟨rfl, rfl⟩⟩, ?_⟩
      refine .inr ⟨_, _, use_mut ⟨_, _, _, _, _, _, rfl, rfl, hv3, rfl, ⟨rfl, rfl⟩⟩, ?_⟩
      refine .inr ⟨_, _, use_mut ⟨_, _, _, _, _, _, rfl, rfl, hP, rfl, ⟨rfl, rfl⟩⟩, ?_⟩
      refine ask_intro ⟨by omega, by show (i : Int) < m.regs.length; rw [hd.regs]; omega⟩ ?_
      refine ask_intro (show i < m.regs.length by rw [hd.regs]; omega) ?_
      refine chk_intro (by kernel_rfl) ?_
      refine ⟨⟨(i + 1, { m with regs := m.regs.set i v }, q + 9), by omega, by omega, ⟨by simpa using hd.regs, hd.csr, hd.inp, hd.out⟩, by show p + 1 ≤ q + 9; omega, by show q + 9 ≤ p + 1 + 20 * ((i + 1 : Nat) : Int); omega⟩, le_of [(10, 10), (11, 11), (12, 12), (13, 13), (14, 14), (15, 15)] rfl rfl rfl rfl
        (tellHp_box rfl rfl ⟨DLe.refl _, congrArg (Value.int .i64) (by show q + 1 + 5 + 1 + 1 + 1 = q + 9; omega), trivial⟩ (tellHp_box rfl rfl ⟨rfl, rfl, rfl, rfl, rfl, rfl, rfl, rfl, rfl, trivial⟩ (tellHp_box rfl rfl ⟨rfl, rfl, rfl, rfl, rfl, rfl, rfl, rfl, rfl, trivial⟩ (tellHp_row rfl rfl (show m.regs.length = (m.regs.set i v).length by simp) (fun j hj => set_at (l := m.regs) (i := i) rfl (show i < m.regs.length by rw [hd.regs]; omega)) (tellHp_row rfl rfl rfl (fun j hj => rfl) (tellHp_row rfl rfl rfl (fun j hj => rfl) (tellHp_row rfl rfl rfl (fun j hj => rfl) tellHp_nil)))))))
        (tellFr_ptr rfl rfl (tellFr_ptr rfl rfl (tellFr_ptr rfl rfl (tellFr_v rfl (congrArg (Value.int .i64) (hw)) trivial)))), by show 16 - (i + 1) < 16 - i; omega⟩
    · refine ⟨⟨(i + 1, m, q + 1), by omega, by omega, hd, by show p + 1 ≤ q + 1; omega, by show q + 1 ≤ p + 1 + 20 * ((i + 1 : Nat) : Int); omega⟩, le_of [(10, 10), (11, 11), (12, 12), (13, 13), (14, 14), (15, 15)] rfl rfl rfl rfl
        (tellHp_box rfl rfl ⟨DLe.refl _, congrArg (Value.int .i64) (rfl), trivial⟩ (tellHp_box rfl rfl ⟨rfl, rfl, rfl, rfl, rfl, rfl, rfl, rfl, rfl, trivial⟩ (tellHp_box rfl rfl ⟨rfl, rfl, rfl, rfl, rfl, rfl, rfl, rfl, rfl, trivial⟩ (tellHp_row rfl rfl rfl (fun j hj => rfl) (tellHp_row rfl rfl rfl (fun j hj => rfl) (tellHp_row rfl rfl rfl (fun j hj => rfl) (tellHp_row rfl rfl rfl (fun j hj => rfl) tellHp_nil)))))))
        (tellFr_ptr rfl rfl (tellFr_ptr rfl rfl (tellFr_ptr rfl rfl (tellFr_v rfl (congrArg (Value.int .i64) (hw)) trivial)))), by show 16 - (i + 1) < 16 - i; omega⟩
  have hi : i = 16 := by simp at hb; omega
  subst hi
  clear hb
  obtain ⟨u1, _, _, hu1⟩ := nextE c hc q 24 (by omega) (by omega) (by omega)
  obtain ⟨u2, _, _, hu2⟩ := nextE c hc (q + 1) 24 (by omega) (by omega) (by omega)
  obtain ⟨u3, hu3⟩ := wordE c hc (q + 1 + 1) (by omega) (by omega)
  obtain ⟨u, _, hu⟩ := pickE c hc (q + 1 + 1 + 5) [u1, u2, u3] (by omega) (by omega) (by simp)
  obtain ⟨w, _, _, hw1⟩ := nextE c hc (q + 1 + 1 + 5 + 1) 90 (by omega) (by omega) (by omega)
  refine .inr ⟨rfl, use_mut ⟨_, _, _, _, _, _, rfl, rfl, hu1, rfl, ?_⟩⟩
  refine .inr ⟨rfl, use_mut ⟨_, _, _, _, _, _, rfl, rfl, hu2, rfl, ?_⟩⟩
  refine .inr ⟨rfl, use_mut ⟨_, _, _, _, _, _, rfl, rfl, hu3, rfl, ?_⟩⟩
  refine .inr ⟨rfl, use_mut ⟨_, _, _, _, _, _, rfl, rfl, hu, rfl, ?_⟩⟩
  refine .inr ⟨rfl, use_mut ⟨_, _, _, _, _, _, rfl, rfl, hw1, rfl, ?_⟩⟩
  refine ⟨{ x : Nat × HartM × Int // x.1 ≤ 11 ∧ x.2.1.drawn ∧ q + 9 ≤ x.2.2 ∧ x.2.2 ≤ q + 9 + 20 * x.1 }, fun x => ⟨frL [(0, .ptr 0 0), (2, .ptr 10 0), (3, .ptr 11 0), (5, di x.1.1)], hpL (drawMem c x.1.2.1 x.1.2.2), 100, 1⟩, fun x => 11 - x.1.1, ⟨(0, { m with pc := u, done := w }, q + 9), by omega, ⟨hd.regs, hd.csr, hd.inp, hd.out⟩, by show q + 9 ≤ q + 9; omega, by show q + 9 ≤ q + 9 + 20 * ((0 : Nat) : Int); omega⟩,
    le_of [(10, 10), (11, 11), (12, 12), (13, 13), (14, 14), (15, 15)] rfl rfl rfl rfl
        (tellHp_box rfl rfl ⟨DLe.refl _, congrArg (Value.int .i64) (by show q + 1 + 1 + 5 + 1 + 1 = q + 9; omega), trivial⟩ (tellHp_box rfl rfl ⟨rfl, rfl, rfl, rfl, rfl, rfl, rfl, rfl, rfl, trivial⟩ (tellHp_box rfl rfl ⟨rfl, rfl, rfl, rfl, rfl, rfl, rfl, rfl, rfl, trivial⟩ (tellHp_row rfl rfl rfl (fun j hj => rfl) (tellHp_row rfl rfl rfl (fun j hj => rfl) (tellHp_row rfl rfl rfl (fun j hj => rfl) (tellHp_row rfl rfl rfl (fun j hj => rfl) tellHp_nil)))))))
        (tellFr_ptr rfl rfl (tellFr_ptr rfl rfl (tellFr_ptr rfl rfl (tellFr_v rfl (congrArg (Value.int .i64) (rfl)) trivial)))), ?_⟩
  rintro ⟨⟨j, m2, r⟩, k1, kd, k2, k3⟩
  simp only at k1 kd k2 k3
  refine bsplit_intro (fun hb => ?_) (fun hb => ?_)
  · have hj : j < 11 := by simp at hb; omega
    have hw : IntKind.i64.wrap ((j : Int) + 1) = ((j + 1 : Nat) : Int) := wrap_i64 (j + 1) (by omega) (by omega)
    obtain ⟨v0, hv0⟩ := chanceE c hc r 2 (by omega) (by omega)
    refine .inr ⟨rfl, use_mut ⟨_, _, _, _, _, _, rfl, rfl, hv0, rfl, ?_⟩⟩
    refine bsplit_intro (fun hb2 => ?_) (fun hb2 => ?_)
    · obtain ⟨v1, _, _, hv1⟩ := nextE c hc (r + 1) 9 (by omega) (by omega) (by omega)
      obtain ⟨v2, _, _, hv2⟩ := nextE c hc (r + 1 + 1) 60 (by omega) (by omega) (by omega)
      obtain ⟨v3, hv3⟩ := wordE c hc (r + 1 + 1 + 1) (by omega) (by omega)
      obtain ⟨v, _, hP⟩ := pickE c hc (r + 1 + 1 + 1 + 5) [v1, v2, v3] (by omega) (by omega) (by simp)
      refine .inr ⟨rfl, use_mut ⟨_, _, _, _, _, _, rfl, rfl, hv1, rfl, ?_⟩⟩
      refine .inr ⟨rfl, use_mut ⟨_, _, _, _, _, _, rfl, rfl, hv2, rfl, ?_⟩⟩
      refine .inr ⟨rfl, use_mut ⟨_, _, _, _, _, _, rfl, rfl, hv3, rfl, ?_⟩⟩
      refine .inr ⟨rfl, use_mut ⟨_, _, _, _, _, _, rfl, rfl, hP, rfl, ?_⟩⟩
      refine .inr ⟨rfl, use_mut ⟨_, _, _, _, _, _, rfl, rfl, c_spec_l8Set m2 j v kd.csr (inR_iff.2 ⟨by omega, by omega⟩), rfl, ?_⟩⟩
      exact ⟨⟨(j + 1, setM m2 j v, r + 9), by omega, setM_drawn kd _ _, by show q + 9 ≤ r + 9; omega, by show r + 9 ≤ q + 9 + 20 * ((j + 1 : Nat) : Int); omega⟩, le_of [(10, 10), (11, 11), (12, 12), (13, 13), (14, 14), (15, 15)] rfl rfl rfl rfl
        (tellHp_box rfl rfl ⟨DLe.refl _, congrArg (Value.int .i64) (by show r + 1 + 1 + 1 + 5 + 1 = r + 9; omega), trivial⟩ (tellHp_box rfl rfl ⟨rfl, rfl, rfl, rfl, rfl, rfl, rfl, rfl, rfl, trivial⟩ (tellHp_box rfl rfl ⟨rfl, rfl, rfl, rfl, rfl, rfl, rfl, rfl, rfl, trivial⟩ (tellHp_row rfl rfl rfl (fun j hj => rfl) (tellHp_row rfl rfl rfl (fun j hj => rfl) (tellHp_row rfl rfl rfl (fun j hj => rfl) (tellHp_row rfl rfl rfl (fun j hj => rfl) tellHp_nil)))))))
        (tellFr_ptr rfl rfl (tellFr_ptr rfl rfl (tellFr_ptr rfl rfl (tellFr_v rfl (congrArg (Value.int .i64) (hw)) trivial)))), by show 11 - (j + 1) < 11 - j; omega⟩
    · exact ⟨⟨(j + 1, m2, r + 1), by omega, kd, by show q + 9 ≤ r + 1; omega, by show r + 1 ≤ q + 9 + 20 * ((j + 1 : Nat) : Int); omega⟩, le_of [(10, 10), (11, 11), (12, 12), (13, 13), (14, 14), (15, 15)] rfl rfl rfl rfl
        (tellHp_box rfl rfl ⟨DLe.refl _, congrArg (Value.int .i64) (rfl), trivial⟩ (tellHp_box rfl rfl ⟨rfl, rfl, rfl, rfl, rfl, rfl, rfl, rfl, rfl, trivial⟩ (tellHp_box rfl rfl ⟨rfl, rfl, rfl, rfl, rfl, rfl, rfl, rfl, rfl, trivial⟩ (tellHp_row rfl rfl rfl (fun j hj => rfl) (tellHp_row rfl rfl rfl (fun j hj => rfl) (tellHp_row rfl rfl rfl (fun j hj => rfl) (tellHp_row rfl rfl rfl (fun j hj => rfl) tellHp_nil)))))))
        (tellFr_ptr rfl rfl (tellFr_ptr rfl rfl (tellFr_ptr rfl rfl (tellFr_v rfl (congrArg (Value.int .i64) (hw)) trivial)))), by show 11 - (j + 1) < 11 - j; omega⟩
  have hj : j = 11 := by simp at hb; omega
  subst hj
  obtain ⟨b1, hb1⟩ := chanceE c hc r 3 (by omega) (by omega)
  obtain ⟨b2, hb2⟩ := chanceE c hc (r + 1) 8 (by omega) (by omega)
  obtain ⟨b3, hb3⟩ := chanceE c hc (r + 1 + 1) 20 (by omega) (by omega)
  obtain ⟨b4, hb4⟩ := chanceE c hc (r + 1 + 1 + 1) 20 (by omega) (by omega)
  refine .inr ⟨rfl, use_mut ⟨_, _, _, _, _, _, rfl, rfl, hb1, rfl, ?_⟩⟩
  refine .inr ⟨rfl, use_mut ⟨_, _, _, _, _, _, rfl, rfl, hb2, rfl, ?_⟩⟩
  refine .inr ⟨rfl, use_mut ⟨_, _, _, _, _, _, rfl, rfl, hb3, rfl, ?_⟩⟩
  refine .inr ⟨rfl, use_mut ⟨_, _, _, _, _, _, rfl, rfl, hb4, rfl, ?_⟩⟩
  refine bsplit_intro (fun hb => ?_) (fun hb => ?_)
  · refine ask_intro ⟨rfl, by decide, by decide, by decide⟩ ?_
    exact ⟨_, _, _, [(1, 12), (2, 13), (3, 14), (4, 20580)], ⟨{ m2 with rung := b1, waiting := b2, halted := b3, out := List.replicate 40 0 }, r + 1 + 1 + 1 + 1, ⟨kd.regs, kd.csr, kd.inp, by simp⟩, by omega, by omega, rfl, rfl, rfl⟩, chk_intro (by kernel_rfl) ⟨⟨rfl, rfl, rfl, rfl, rfl, rfl, rfl, rfl, rfl, trivial⟩,
      tellHp_box rfl rfl ⟨DLe.refl _, rfl, trivial⟩ (tellHp_row rfl rfl rfl (fun j hj => rfl) (tellHp_row rfl rfl rfl (fun j hj => rfl) (tellHp_row rfl rfl rfl (fun j hj => rfl) (tellHp_row rfl rfl rfl (fun j hj => (rep_get 40 j).symm) tellHp_nil))))⟩⟩
  · exact ⟨_, _, _, [(1, 12), (2, 13), (3, 14), (4, 15)], ⟨{ m2 with rung := b1, waiting := b2, halted := b3 }, r + 1 + 1 + 1 + 1, ⟨kd.regs, kd.csr, kd.inp, kd.out⟩, by omega, by omega, rfl, rfl, rfl⟩, chk_intro (by kernel_rfl) ⟨⟨rfl, rfl, rfl, rfl, rfl, rfl, rfl, rfl, rfl, trivial⟩,
      tellHp_box rfl rfl ⟨DLe.refl _, rfl, trivial⟩ (tellHp_row rfl rfl rfl (fun j hj => rfl) (tellHp_row rfl rfl rfl (fun j hj => rfl) (tellHp_row rfl rfl rfl (fun j hj => rfl) (tellHp_row rfl rfl rfl (fun j hj => rfl) tellHp_nil))))⟩⟩
end Go.Proofs.YtcllbnancmogfaaDoor.L

/- What the functions compute that draw a machine with something bent: contracts. -/
set_option linter.unusedVariables false
set_option linter.unusedSimpArgs false
set_option maxRecDepth 100000
namespace Go.Proofs.YtcllbnancmogfaaDoor.L
open Go.RowKit
theorem drop_intsB (l : List Int) (k i : Nat) : intsF l (k + i) = intsF (l.drop k) i := by
  show [D.v (.int .i64 (l.getD (k + i) 0))] = [D.v (.int .i64 ((l.drop k).getD i 0))]
  simp [List.getD, List.getElem?_drop]
theorem HartM.drawn.small {m : HartM} (h : m.drawn) : m.small := by
  obtain ⟨h1, h2, h3, h4⟩ := h
  exact ⟨by omega, by omega, by omega, by omega⟩
set_option maxHeartbeats 2000000 in
theorem c_spec_l8Bent (c : List Int) (hc : okCode c) (p : Int) (hp : 0 ≤ p) (hp2 : p ≤ 1099511) : MutS Tryd.prog 26 [.ptr 0 0] 1 [(0, srcBox c p)]
    (fun lv m' hp1 => ∃ (m : HartM) (q : Int), m.small ∧ m.few ∧ p ≤ q ∧ q ≤ p + 1100 ∧ lv = hartLV m ∧ m' = 1 ∧ hp1 = [(0, srcBox c q)]) := by
  refine mutS_fn_of lv26 Tryd.func26 rfl rfl (by kernel_rfl) rfl ?_
  refine .inr ⟨rfl, use_mutS ⟨_, _, _, _, rfl, rfl, c_spec_l8Hart c hc p (by omega) (by omega), rfl, ?_⟩⟩
  rintro _ _ _ ⟨m, q, hd, hq1, hq2, rfl, rfl, rfl⟩
  refine ⟨rfl, ?_⟩
  obtain ⟨k, hk1, hk2, hk⟩ := nextE c hc q 20 (by omega) (by omega) (by omega)
  refine .inr ⟨rfl, use_mut ⟨_, _, _, _, _, _, rfl, rfl, hk, rfl, ?_⟩⟩
  have e1 := hd.regs
  have e2 := hd.csr
  have e3 := hd.inp
  have e4 := hd.out
  have sm : ∀ m' : HartM, m'.regs.length ≤ 16 → m'.csr.length ≤ 11 → m'.inp.length ≤ 41 → m'.out.length ≤ 40 → m'.small ∧ m'.few := fun m' a1 a2 a3 a4 => ⟨⟨by omega, by omega, by omega, by omega⟩, ⟨by omega, by omega, by omega, by omega⟩⟩
  have fz : ∀ {P Q : Prop}, P → Q → P ∧ Q := fun a b => ⟨a, b⟩
  refine bsplit_intro (fun hb => ?_) (fun hb => ?_)
  · refine ask_intro ⟨by omega, by show (0 : Int) < m.regs.length; omega⟩ ?_
    refine ask_intro (show 0 < m.regs.length by omega) ?_
    obtain ⟨s1, s2⟩ := sm { m with regs := m.regs.set 0 1 } (by simp <;> omega) (by simp <;> omega) (by simp <;> omega) (by simp <;> omega)
    refine ⟨_, _, _, [], ⟨{ m with regs := m.regs.set 0 1 }, q + 1, s1, s2, by omega, by omega, rfl, rfl, rfl⟩, chk_intro (by kernel_rfl) ⟨?_, tellHp_box rfl rfl ⟨DLe.refl _, rfl, trivial⟩ tellHp_nil⟩⟩
    exact ⟨⟨rfl, DLe.l (show m.regs.length = (m.regs.set 0 1).length by simp) (fun i hi => set_at (l := m.regs) (i := 0) rfl (by omega))⟩, rfl, ⟨rfl, DLe.refl _⟩, rfl, rfl, rfl, rfl, ⟨rfl, DLe.refl _⟩, ⟨rfl, DLe.refl _⟩, trivial⟩
  refine bsplit_intro (fun hb => ?_) (fun hb => ?_)
  · refine ask_intro ⟨by omega, by show (1 : Int) ≤ m.regs.length; omega, by show (m.regs.length : Int) ≤ m.regs.length; omega, .inr (fun i hi => rfl)⟩ ?_
    obtain ⟨s1, s2⟩ := sm { m with regs := m.regs.drop 1 } (by simp <;> omega) (by simp <;> omega) (by simp <;> omega) (by simp <;> omega)
    refine ⟨_, _, _, [], ⟨{ m with regs := m.regs.drop 1 }, q + 1, s1, s2, by omega, by omega, rfl, rfl, rfl⟩, chk_intro (by kernel_rfl) ⟨?_, tellHp_box rfl rfl ⟨DLe.refl _, rfl, trivial⟩ tellHp_nil⟩⟩
    exact ⟨DLe.l (show ((m.regs.length : Int) - 1).toNat = (m.regs.drop 1).length by simp <;> omega) (fun i hi => drop_intsB m.regs 1 i), rfl, ⟨rfl, DLe.refl _⟩, rfl, rfl, rfl, rfl, ⟨rfl, DLe.refl _⟩, ⟨rfl, DLe.refl _⟩, trivial⟩
  refine bsplit_intro (fun hb => ?_) (fun hb => ?_)
  · obtain ⟨j, hj1, hj2, hj⟩ := nextE c hc (q + 1) 11 (by omega) (by omega) (by omega)
    obtain ⟨v, _, hP⟩ := pickE c hc (q + 1 + 1) [-1, 4, 9, 4294967296] (by omega) (by omega) (by simp)
    obtain ⟨s1, s2⟩ := sm { m with csr := m.csr.set j.toNat v } (by simp <;> omega) (by simp <;> omega) (by simp <;> omega) (by simp <;> omega)
    refine .inr ⟨_, _, use_mut ⟨_, _, _, _, _, _, rfl, rfl, hj, rfl, ⟨rfl, rfl⟩⟩, ?_⟩
    refine .inr ⟨_, _, use_mut ⟨_, _, _, _, _, _, rfl, rfl, hP, rfl, ⟨rfl, rfl⟩⟩, ?_⟩
    refine ask_intro ⟨by omega, by show j < m.csr.length; omega⟩ ?_
    refine ask_intro (show j.toNat < m.csr.length by omega) ?_
    refine chk_intro (by kernel_rfl) ?_
    refine ⟨_, _, _, [], ⟨{ m with csr := m.csr.set j.toNat v }, q + 1 + 1 + 1, s1, s2, by omega, by omega, rfl, rfl, rfl⟩, chk_intro (by kernel_rfl) ⟨?_, tellHp_box rfl rfl ⟨DLe.refl _, rfl, trivial⟩ tellHp_nil⟩⟩
    exact ⟨⟨rfl, DLe.refl _⟩, rfl, ⟨rfl, DLe.l (show m.csr.length = (m.csr.set j.toNat v).length by simp) (fun i hi => set_at (l := m.csr) (i := j.toNat) rfl (by omega))⟩, rfl, rfl, rfl, rfl, ⟨rfl, DLe.refl _⟩, ⟨rfl, DLe.refl _⟩, trivial⟩
  refine bsplit_intro (fun hb => ?_) (fun hb => ?_)
  · obtain ⟨v, _, hP⟩ := pickE c hc (q + 1) [-1, 4294967296] (by omega) (by omega) (by simp)
    refine .inr ⟨rfl, use_mut ⟨_, _, _, _, _, _, rfl, rfl, hP, rfl, ?_⟩⟩
    obtain ⟨s1, s2⟩ := sm { m with pc := v } (by simp <;> omega) (by simp <;> omega) (by simp <;> omega) (by simp <;> omega)
    refine ⟨_, _, _, [], ⟨{ m with pc := v }, q + 1 + 1, s1, s2, by omega, by omega, rfl, rfl, rfl⟩, chk_intro (by kernel_rfl) ⟨?_, tellHp_box rfl rfl ⟨DLe.refl _, rfl, trivial⟩ tellHp_nil⟩⟩
    exact ⟨⟨rfl, DLe.refl _⟩, rfl, ⟨rfl, DLe.refl _⟩, rfl, rfl, rfl, rfl, ⟨rfl, DLe.refl _⟩, ⟨rfl, DLe.refl _⟩, trivial⟩
  refine bsplit_intro (fun hb => ?_) (fun hb => ?_)
  · refine ask_intro ⟨rfl, by decide, by decide, by decide⟩ ?_
    obtain ⟨s1, s2⟩ := sm { m with inp := List.replicate 41 0 } (by simp <;> omega) (by simp <;> omega) (by simp) (by simp <;> omega)
    refine ⟨_, _, _, [], ⟨{ m with inp := List.replicate 41 0 }, q + 1, s1, s2, by omega, by omega, rfl, rfl, rfl⟩, chk_intro (by kernel_rfl) ⟨?_, tellHp_box rfl rfl ⟨DLe.refl _, rfl, trivial⟩ tellHp_nil⟩⟩
    exact ⟨⟨rfl, DLe.refl _⟩, rfl, ⟨rfl, DLe.refl _⟩, rfl, rfl, rfl, rfl, ⟨rfl, DLe.l rfl (fun i hi => (rep_get 41 i).symm)⟩, ⟨rfl, DLe.refl _⟩, trivial⟩
  obtain ⟨s1, s2⟩ := sm m (by omega) (by omega) (by omega) (by omega)
  refine bsplit_intro (fun hb => ?_) (fun hb => ?_)
  · obtain ⟨v, _, hP⟩ := pickE c hc (q + 1) [-1, 1000000000, 1000000001] (by omega) (by omega) (by simp)
    refine .inr ⟨rfl, use_mut ⟨_, _, _, _, _, _, rfl, rfl, hP, rfl, ?_⟩⟩
    obtain ⟨s1, s2⟩ := sm { m with done := v } (by simp <;> omega) (by simp <;> omega) (by simp <;> omega) (by simp <;> omega)
    refine ⟨_, _, _, [], ⟨{ m with done := v }, q + 1 + 1, s1, s2, by omega, by omega, rfl, rfl, rfl⟩, chk_intro (by kernel_rfl) ⟨?_, tellHp_box rfl rfl ⟨DLe.refl _, rfl, trivial⟩ tellHp_nil⟩⟩
    exact ⟨⟨rfl, DLe.refl _⟩, rfl, ⟨rfl, DLe.refl _⟩, rfl, rfl, rfl, rfl, ⟨rfl, DLe.refl _⟩, ⟨rfl, DLe.refl _⟩, trivial⟩
  · refine ⟨_, _, _, [], ⟨m, q + 1, s1, s2, by omega, by omega, rfl, rfl, rfl⟩, chk_intro (by kernel_rfl) ⟨?_, tellHp_box rfl rfl ⟨DLe.refl _, rfl, trivial⟩ tellHp_nil⟩⟩
    exact ⟨⟨rfl, DLe.refl _⟩, rfl, ⟨rfl, DLe.refl _⟩, rfl, rfl, rfl, rfl, ⟨rfl, DLe.refl _⟩, ⟨rfl, DLe.refl _⟩, trivial⟩
end Go.Proofs.YtcllbnancmogfaaDoor.L

/- What the functions compute that draw a machine and what is done to it: contracts. -/
set_option linter.unusedVariables false
set_option linter.unusedSimpArgs false
set_option maxRecDepth 100000
namespace Go.Proofs.YtcllbnancmogfaaDoor.L
open Go.RowKit
abbrev hartSh (m : HartM) : RV1 := .agg [.sh (ints m.regs), .v (.int .i64 m.pc), .sh (ints m.csr), .v (.bool m.halted), .v (.bool m.waiting), .v (.bool m.rung), .v (.int .i64 m.done), .sh (ints m.inp), .sh (ints m.out)]
theorem c_laws_lwBig (c : List Int) (hc : c.length ≤ 9223372036854775807) : FnOK Tryd.prog 11 [.d (bytesD c)] (rb (decide ((c.length : Int) > 1048576))) := by
  refine fn_of lv11 Tryd.func11 rfl rfl (by kernel_rfl) rfl ?_
  exact ⟨⟨rfl, trivial⟩, rfl⟩
theorem c_laws_lwNums (l m : List Int) (hl : l.length ≤ 9223372036854775807) : FnOK Tryd.prog 17 [.d (ints l), .d (ints m)] (rb (l == m)) := by
  refine fn_of lv17 Tryd.func17 rfl rfl rfl rfl ?_
  refine bsplit_intro (fun h => ?_) (fun h => ?_)
  · refine ⟨⟨congrArg Value.bool (?_ : false = _), trivial⟩, rfl⟩
    simp at h
    symm
    rw [beq_eq_false_iff_ne]
    rintro rfl
    exact h rfl
  have hlen : l.length = m.length := by simp at h; omega
  refine ⟨{ i : Nat // i ≤ l.length ∧ (l.drop i == m.drop i) = (l == m) }, fun i => ⟨frL [(0, .d (ints l)), (1, .d (ints m)), (5, di i.1)], hpL [], 0, 0⟩, fun i => l.length - i.1, ⟨0, by simp⟩,
    le_of [] rfl rfl rfl rfl trivial (tellFr_d rfl (DLe.refl _) (tellFr_d rfl (DLe.refl _) (tellFr_v rfl rfl trivial))), ?_⟩
  rintro ⟨i, hi, hall⟩
  refine bsplit_intro (fun h => ?_) (fun h => ?_)
  · have h : i < l.length := by simp at h; exact h
    have hd : (l.drop i == m.drop i) = ((l.getD i 0 == m.getD i 0) && (l.drop (i + 1) == m.drop (i + 1))) := by
      rw [drop_cons l i h, drop_cons m i (by omega)]
      exact List.cons_beq_cons
    refine ask_intro ⟨by omega, by simp; omega, rfl⟩ ?_
    refine ask_intro ⟨by omega, by simp; omega, rfl⟩ ?_
    refine chk_intro rfl ?_
    refine bsplit_intro (fun h2 => ?_) (fun h2 => ?_)
    · refine ⟨⟨congrArg Value.bool (?_ : false = _), trivial⟩, rfl⟩
      have h2 : (l.getD i 0 != m.getD i 0) = true := h2
      rw [← hall, hd]
      have h2 : (l.getD i 0 == m.getD i 0) = false := by simpa [bne] using h2
      rw [h2]; rfl
    · have h2 : (l.getD i 0 != m.getD i 0) = false := h2
      refine ⟨⟨i + 1, by omega, ?_⟩, le_of [] rfl rfl rfl rfl trivial (tellFr_d rfl (DLe.refl _) (tellFr_d rfl (DLe.refl _) (tellFr_v rfl (congrArg (Value.int .i64) (?_ : IntKind.i64.wrap ((i : Int) + 1) = ((i + 1 : Nat) : Int))) trivial))), ?_⟩
      · rw [← hall, hd]
        have h2 : (l.getD i 0 == m.getD i 0) = true := by simpa [bne] using h2
        rw [h2]; rfl
      · exact wrap_i64 (i + 1) (by omega) (by omega)
      · show l.length - (i + 1) < l.length - i
        omega
  · refine ⟨⟨congrArg Value.bool (?_ : true = _), trivial⟩, rfl⟩
    simp at h
    rw [← hall, List.drop_eq_nil_of_le h, List.drop_eq_nil_of_le (by omega)]; rfl
end Go.Proofs.YtcllbnancmogfaaDoor.L

/- Plain facts on machines: what it means that nothing is wrong with one, and what stays so when a number is set. -/
set_option linter.unusedVariables false
set_option linter.unusedSimpArgs false
set_option maxRecDepth 100000
namespace Go.Proofs.YtcllbnancmogfaaDoor.L
open Go.RowKit
structure HartM.right (m : HartM) : Prop where
  regs : m.regs.length = 16
  csr : m.csr.length = 11
  r0 : m.regs.getD 0 0 = 0
  wr : ∀ x ∈ m.regs, isW x = true
  wp : isW m.pc = true
  wc : ∀ x ∈ m.csr, isW x = true
  wi : ∀ x ∈ m.inp, isW x = true
  wo : ∀ x ∈ m.out, isW x = true
  inp : m.inp.length ≤ 40
  out : m.out.length ≤ 40
  done : inR m.done 0 1000000000 = true
  c0 : m.csr.getD 0 0 ≤ 3
  c7 : m.csr.getD 7 0 ≤ 7
  c10 : m.csr.getD 10 0 ≤ 8
  c6 : m.csr.getD 6 0 = 0
  c8 : m.csr.getD 8 0 = 0
theorem bif_zero {b : Bool} {x : Int} {n : Int} (h : (bif b then n else x) = 0) (hn : n ≠ 0) : b = false ∧ x = 0 := by cases b <;> simp_all
theorem hFault_right {m : HartM} (h : hFault m = 0) : m.right := by
  unfold hFault at h
  obtain ⟨h1, h⟩ := bif_zero h (by decide)
  obtain ⟨h2, h⟩ := bif_zero h (by decide)
  obtain ⟨h3, h⟩ := bif_zero h (by decide)
  obtain ⟨h4, h⟩ := bif_zero h (by decide)
  obtain ⟨h5, h⟩ := bif_zero h (by decide)
  simp only [Bool.or_eq_false_iff, bne_eq_false_iff_eq, Bool.not_eq_eq_eq_not, Bool.not_false, decide_eq_false_iff_not, List.all_eq_true] at h1 h2 h3 h4 h5
  exact ⟨by omega, by omega, h1.2.2, h2.1, h2.2.1, h2.2.2.1, h2.2.2.2.1, h2.2.2.2.2, by omega, by omega, h4, by omega, by omega, by omega, h5.2.2.2.1, h5.2.2.2.2⟩
theorem right_hFault {m : HartM} (h : m.right) : hFault m = 0 := by
  obtain ⟨h1, h2, h3, h4, h5, h6, h7, h8, h9, h10, h11, h12, h13, h14, h15, h16⟩ := h
  have a4 : m.regs.all isW = true := List.all_eq_true.2 h4
  have a6 : m.csr.all isW = true := List.all_eq_true.2 h6
  have a7 : m.inp.all isW = true := List.all_eq_true.2 h7
  have a8 : m.out.all isW = true := List.all_eq_true.2 h8
  have b1 : decide ((m.inp.length : Int) > 40) = false := by simp; omega
  have b2 : decide ((m.out.length : Int) > 40) = false := by simp; omega
  have b3 : decide (m.csr.getD 0 0 > 3) = false := by simp only [decide_eq_false_iff_not]; omega
  have b4 : decide (m.csr.getD 7 0 > 7) = false := by simp only [decide_eq_false_iff_not]; omega
  have b5 : decide (m.csr.getD 10 0 > 8) = false := by simp only [decide_eq_false_iff_not]; omega
  unfold hFault
  rw [h1, h2, h3, a4, h5, a6, a7, a8, b1, b2, h11, b3, b4, b5, h15, h16]
  rfl
theorem set_get (l : List Int) (i j : Nat) (v : Int) (hi : i < l.length) : (l.set i v).getD j 0 = if j = i then v else l.getD j 0 := by
  by_cases e : j = i
  · subst e; simp [List.getD, hi]
  · rw [if_neg e]; simp [List.getD, List.getElem?_set_ne (Ne.symm e)]
theorem mem_set_all {l : List Int} {i : Nat} {v : Int} {p : Int → Bool} (h : ∀ x ∈ l, p x = true) (hv : p v = true) : ∀ x ∈ l.set i v, p x = true := fun x hx => by
  rcases List.mem_or_eq_of_mem_set hx with h1 | rfl
  · exact h x h1
  · exact hv
theorem isW_iff {n : Int} : isW n = true ↔ 0 ≤ n ∧ n ≤ 4294967295 := by simp [isW, inR]
theorem setCsrL_right {m : HartM} (h : m.right) {k v : Int} (hk : 0 ≤ k) (hk2 : k ≤ 10) (hv : 0 ≤ v) (hv2 : v ≤ 4294967295) (a : k = 0 → v ≤ 3) (b : k = 7 → v ≤ 7) (c : k = 10 → v ≤ 8) (d : k ≠ 6) (e : k ≠ 8) : (setCsrL m k v).right := by
  obtain ⟨h1, h2, h3, h4, h5, h6, h7, h8, h9, h10, h11, h12, h13, h14, h15, h16⟩ := h
  have hi : k.toNat < m.csr.length := by omega
  unfold setCsrL
  refine ⟨h1, by simpa using h2, h3, h4, h5, mem_set_all h6 (isW_iff.2 ⟨hv, hv2⟩), h7, h8, h9, h10, h11, ?_, ?_, ?_, ?_, ?_⟩
  all_goals
    dsimp only
    rw [set_get _ _ _ _ hi]
    split <;> omega
theorem tmod_w (w n : Int) (hn : 0 < n) : 0 ≤ Int.tmod (wrapW w) n ∧ Int.tmod (wrapW w) n < n := tmod_in (wrapW_le w).1 hn
theorem setM_right {m : HartM} (h : m.right) (k w : Int) (hk : 0 ≤ k) (hk2 : k ≤ 10) : (setM m k w).right := by
  have a1 := wrapW_le w
  have a2 := tmod_w w 4 (by omega)
  have a3 := tmod_w w 8 (by omega)
  unfold setM
  split
  · exact setCsrL_right h hk hk2 (by omega) (by omega) (by omega) (by omega) (by omega) (by omega) (by omega)
  split
  · exact setCsrL_right h hk hk2 (by omega) (by omega) (by omega) (by omega) (by omega) (by omega) (by omega)
  split
  · exact setCsrL_right h hk hk2 (by split <;> omega) (by split <;> omega) (by omega) (by omega) (by intro _; split <;> omega) (by omega) (by omega)
  split
  · obtain ⟨h1, h2, h3, h4, h5, h6, h7, h8, h9, h10, h11, h12, h13, h14, h15, h16⟩ := h
    exact ⟨h1, h2, h3, h4, h5, h6, h7, h8, h9, h10, h11, h12, h13, h14, h15, h16⟩
  split
  · exact h
  · exact setCsrL_right h hk hk2 (by omega) (by omega) (by omega) (by omega) (by omega) (by omega) (by omega)
theorem setM_idem (m : HartM) (k w : Int) : setM (setM m k w) k w = setM m k w := by
  have set2 : ∀ v : Int, setCsrL (setCsrL m k v) k v = setCsrL m k v := fun v => by unfold setCsrL; simp [List.set_set]
  by_cases h0 : k = 0
  · simp only [setM, if_pos h0]; exact set2 _
  by_cases h7 : k = 7
  · simp only [setM, if_neg h0, if_pos h7]; exact set2 _
  by_cases h10 : k = 10
  · simp only [setM, if_neg h0, if_neg h7, if_pos h10]; exact set2 _
  by_cases h6 : k = 6
  · simp only [setM, if_neg h0, if_neg h7, if_neg h10, if_pos h6]
    cases m.rung <;> simp
  by_cases h8 : k = 8
  · simp only [setM, if_neg h0, if_neg h7, if_neg h10, if_neg h6, if_pos h8]
  · simp only [setM, if_neg h0, if_neg h7, if_neg h10, if_neg h6, if_neg h8]; exact set2 _
theorem setM_csr (m : HartM) (k w : Int) (hm : m.csr.length = 11) (hk : 0 ≤ k) (hk2 : k ≤ 10) (i : Int) (hi : 0 ≤ i) (hne : i ≠ k) : (setM m k w).csr.getD i.toNat 0 = m.csr.getD i.toNat 0 ∧ (setM m k w).done = m.done := by
  have st : ∀ v : Int, (setCsrL m k v).csr.getD i.toNat 0 = m.csr.getD i.toNat 0 ∧ (setCsrL m k v).done = m.done := fun v => by
    refine ⟨?_, rfl⟩
    show (m.csr.set k.toNat v).getD i.toNat 0 = _
    rw [set_get _ _ _ _ (by omega), if_neg (by omega)]
  unfold setM
  split
  · exact st _
  split
  · exact st _
  split
  · exact st _
  split
  · exact ⟨rfl, rfl⟩
  split
  · exact ⟨rfl, rfl⟩
  · exact st _
theorem getCsr_set (m : HartM) (k w : Int) (h : m.right) (hk : 0 ≤ k) (hk2 : k ≤ 10) (i : Int) (hi : 0 ≤ i) (hi2 : i ≤ 10) (hne : i ≠ k) (h6 : i ≠ 6) : getCsr (setM m k w) i = getCsr m i := by
  obtain ⟨e1, e2⟩ := setM_csr m k w h.csr hk hk2 i hi hne
  unfold getCsr csrOf
  rw [right_hFault h, right_hFault (setM_right h k w hk hk2), e1, e2, if_neg h6, if_neg h6]
theorem getCsr_right {m : HartM} (h : m.right) (i : Int) (hi : 0 ≤ i) (hi2 : i ≤ 10) : getCsr m i = (0, csrOf m i) := by
  unfold getCsr
  rw [if_pos (right_hFault h), if_pos (inR_iff.2 ⟨hi, hi2⟩)]
theorem setM_5 (m : HartM) (w : Int) (h : m.csr.length = 11) : csrOf (setM m 5 w) 5 = wrapW w := by
  show (if (5 : Int) = 6 then _ else if (5 : Int) = 8 then _ else _) = _
  rw [if_neg (by decide), if_neg (by decide)]
  show (m.csr.set 5 (wrapW w)).getD 5 0 = _
  rw [set_get _ _ _ _ (by omega), if_pos rfl]
theorem setM_8 (m : HartM) (w : Int) : csrOf (setM m 8 w) 8 = m.done := rfl
end Go.Proofs.YtcllbnancmogfaaDoor.L

/- What is due to a machine: the program and the reference. -/
set_option linter.unusedVariables false
set_option linter.unusedSimpArgs false
set_option maxRecDepth 100000
namespace Go.Proofs.YtcllbnancmogfaaDoor.L
open Go.RowKit
abbrev wdI (m : HartM) : Int := andW (pend m) (m.csr.getD 7 0)
def dueOf (m : HartM) : Int × Int := if hFault m = 0 then (if dueI (m.csr.getD 0 0) (wdI m) < 0 then (4, 0) else (0, dueI (m.csr.getD 0 0) (wdI m))) else (hFault m, 0)
theorem wdI_b {m : HartM} (h : hFault m = 0) : 0 ≤ wdI m ∧ wdI m ≤ 7 := by
  obtain ⟨h1, h2, h3, h4, h5, h6, h7, h8, h9, h10, h11, h12, h13, h14, h15, h16⟩ := hFault_right h
  have hp : 0 ≤ pend m ∧ pend m ≤ 7 := by
    unfold pend
    split <;> split <;> split <;> omega
  have hm : 0 ≤ m.csr.getD 7 0 := by
    have hl : 7 < m.csr.length := by omega
    have := h6 (m.csr.getD 7 0) (by simp only [List.getD]; rw [List.getElem?_eq_getElem hl]; exact List.getElem_mem hl)
    exact (inR_iff.1 this).1
  exact and_b _ _ hp.1 hp.2 hm (by assumption)
theorem c_spec_DueOf (m : HartM) (hs : m.small) : FnOK Tryd.prog 6 [hartLV m] (.r (irR (dueOf m))) := by
  have c1 := c_spec_l8Fault m hs
  obtain ⟨r, hr⟩ : ∃ r, r = dueOf m := ⟨_, rfl⟩
  rw [← hr]
  unfold dueOf at hr
  by_cases h : hFault m = 0
  · have hb := wdI_b h
    have c2 := c_spec_l8Due m (hFault_zero h).2.1 _ rfl hb.1 hb.2
    rw [if_pos h] at hr
    rw [h] at c1
    generalize dueI (m.csr.getD 0 0) (wdI m) = d at *
    refine fn_of lv6 Tryd.func6 rfl rfl (by kernel_rfl) rfl ?_
    refine .inl ⟨_, _, rfl, c1, rfl, ?_⟩
    repeat' (first | refine bsplit_true ?_ | refine bsplit_false ?_)
    refine .inl ⟨_, _, rfl, c2, rfl, ?_⟩
    by_cases hd : d < 0
    · rw [if_pos hd] at hr
      subst hr
      refine bsplit_of_true (decide_eq_true hd) ?_
      exact ⟨⟨rfl, rfl, trivial⟩, rfl⟩
    · rw [if_neg hd] at hr
      subst hr
      refine bsplit_of_false (decide_eq_false hd) ?_
      exact ⟨⟨rfl, rfl, trivial⟩, rfl⟩
  · rw [if_neg h] at hr
    subst hr
    generalize hFault m = e at *
    refine fn_of lv6 Tryd.func6 rfl rfl (by kernel_rfl) rfl ?_
    refine .inl ⟨_, _, rfl, c1, rfl, ?_⟩
    refine bsplit_of_true (by simpa using h) ?_
    exact ⟨⟨rfl, rfl, trivial⟩, rfl⟩
theorem c_impl_DueOf (m : HartM) (hs : m.small) : FnOK Tryd.prog 8 [hartLV m] (.r (irR (dueOf m))) := by
  have c1 := c_impl_HartFault m hs
  obtain ⟨r, hr⟩ : ∃ r, r = dueOf m := ⟨_, rfl⟩
  rw [← hr]
  unfold dueOf at hr
  by_cases h : hFault m = 0
  · have hb := wdI_b h
    have c2 := c_impl_Hart_due m (hFault_zero h).2.1 _ rfl hb.1 hb.2
    rw [if_pos h] at hr
    rw [h] at c1
    generalize dueI (m.csr.getD 0 0) (wdI m) = d at *
    refine fn_of lv8 Tryd.func8 rfl rfl (by kernel_rfl) rfl ?_
    refine .inl ⟨_, _, rfl, c1, rfl, ?_⟩
    repeat' (first | refine bsplit_true ?_ | refine bsplit_false ?_)
    refine .inl ⟨_, _, rfl, c2, rfl, ?_⟩
    by_cases hd : d < 0
    · rw [if_pos hd] at hr
      subst hr
      refine bsplit_of_true (decide_eq_true hd) ?_
      exact ⟨⟨rfl, rfl, trivial⟩, rfl⟩
    · rw [if_neg hd] at hr
      subst hr
      refine bsplit_of_false (decide_eq_false hd) ?_
      exact ⟨⟨rfl, rfl, trivial⟩, rfl⟩
  · rw [if_neg h] at hr
    subst hr
    generalize hFault m = e at *
    refine fn_of lv8 Tryd.func8 rfl rfl (by kernel_rfl) rfl ?_
    refine .inl ⟨_, _, rfl, c1, rfl, ?_⟩
    refine bsplit_of_true (by simpa using h) ?_
    exact ⟨⟨rfl, rfl, trivial⟩, rfl⟩
theorem c_laws_FnExactDueOf (m : HartM) (ho : m.ok) : FnOK Tryd.prog 3 [hartLV m] (rb true) := by
  have hs := ho.small
  refine fn_of lv3 Tryd.func3 rfl rfl (by kernel_rfl) rfl ?_
  refine .inl ⟨_, _, rfl, c_laws_szHart m hs _ (by decide) (by decide), rfl, ?_⟩
  refine bsplit_intro (fun h => ?_) (fun h => ?_)
  · exact ⟨⟨rfl, trivial⟩, rfl⟩
  refine .inl ⟨_, _, rfl, c_laws_toHart m hs, rfl, ?_⟩
  refine .inl ⟨_, _, rfl, c_spec_DueOf m hs, rfl, ?_⟩
  refine .inl ⟨_, _, rfl, c_laws_toHart m hs, rfl, ?_⟩
  refine .inl ⟨_, _, rfl, c_impl_DueOf m hs, rfl, ?_⟩
  refine .inl ⟨_, _, rfl, c_laws_eqIntResult (dueOf m) (dueOf m), rfl, ?_⟩
  refine bsplit_of_false (by simp) ?_
  refine .inl ⟨_, _, rfl, c_laws_toHart m hs, rfl, ?_⟩
  refine .inl ⟨_, _, rfl, c_laws_eqHart m m hs, rfl, ?_⟩
  refine chk_intro (by kernel_rfl) ?_
  refine bsplit_of_false (by simp) ?_
  exact ⟨⟨rfl, trivial⟩, rfl⟩
end Go.Proofs.YtcllbnancmogfaaDoor.L

/- Codes of bytes, as arguments read as data. -/
set_option linter.unusedVariables false
set_option linter.unusedSimpArgs false
set_option maxRecDepth 100000
namespace Go.Proofs.YtcllbnancmogfaaDoor.L
open Go.RowKit Go.ChangeShapes Go.WideShapes Go.ChangeAt
abbrev okByte (n : Int) : Prop := (Lit.int .u8 n).wf = true
theorem okByte_le {n : Int} (h : okByte n) : 0 ≤ n ∧ n ≤ 255 := by
  have h' : IntKind.u8.min ≤ n ∧ n ≤ IntKind.u8.max := by simpa [okByte, Lit.wf] using h
  have e : IntKind.u8.min = 0 := by decide
  have e2 : IntKind.u8.max = 255 := by decide
  rw [e, e2] at h'
  exact h'
abbrev okBytes (l : List Int) : Prop := l.length * 1 ≤ reachBytes ∧ ∀ x ∈ l, okByte x
theorem okBytes.code {l : List Int} (h : okBytes l) (hb : decide ((l.length : Int) > 1048576) = false) : okCode l := ⟨by simp at hb; omega, fun x hx => okByte_le (h.2 x hx)⟩
theorem reads_uint8 : ReadsT Tryd.prog 5 1 Int (fun n => [.v (.int .u8 n)]) okByte := ReadsT.int Tryd.underlying5 (by kernel_rfl)
theorem reads_bytes : ReadsT Tryd.prog 34 1 (List Int) (fun l => [bytesD l]) okBytes := ReadsT.slice reads_uint8 Tryd.underlying34 (by kernel_rfl) (by decide) 0 (by kernel_rfl)
end Go.Proofs.YtcllbnancmogfaaDoor.L

/- Choices out of a literal of so many numbers: contracts. -/
set_option linter.unusedVariables false
set_option maxRecDepth 100000
namespace Go.Proofs.YtcllbnancmogfaaDoor.L
open Go.RowKit
theorem pick2 (c : List Int) (hc : okCode c) (p : Int) (a b : Int) (hp : 0 ≤ p) (hp2 : p ≤ 549755813888) : MutOK Tryd.prog 27 [.ptr 0 0, .row 1] 2 [(0, srcBox c p), (1, .row 2 1 2 (fun i => ([[D.v (.int .i64 a)], [D.v (.int .i64 b)]] : List (List D)).getD i []))] (di (pk c p [a, b])) 2 [(0, srcBox c (p + 1)), (1, rowE [a, b])] := c_spec_l1Pick c hc p [a, b] hp hp2 (by simp)
theorem pick3 (c : List Int) (hc : okCode c) (p : Int) (a b d : Int) (hp : 0 ≤ p) (hp2 : p ≤ 549755813888) : MutOK Tryd.prog 27 [.ptr 0 0, .row 1] 2 [(0, srcBox c p), (1, .row 2 1 3 (fun i => ([[D.v (.int .i64 a)], [D.v (.int .i64 b)], [D.v (.int .i64 d)]] : List (List D)).getD i []))] (di (pk c p [a, b, d])) 2 [(0, srcBox c (p + 1)), (1, rowE [a, b, d])] := c_spec_l1Pick c hc p [a, b, d] hp hp2 (by simp)
theorem pick4 (c : List Int) (hc : okCode c) (p : Int) (a b d e : Int) (hp : 0 ≤ p) (hp2 : p ≤ 549755813888) : MutOK Tryd.prog 27 [.ptr 0 0, .row 1] 2 [(0, srcBox c p), (1, .row 2 1 4 (fun i => ([[D.v (.int .i64 a)], [D.v (.int .i64 b)], [D.v (.int .i64 d)], [D.v (.int .i64 e)]] : List (List D)).getD i []))] (di (pk c p [a, b, d, e])) 2 [(0, srcBox c (p + 1)), (1, rowE [a, b, d, e])] := c_spec_l1Pick c hc p [a, b, d, e] hp hp2 (by simp)
theorem pick5 (c : List Int) (hc : okCode c) (p : Int) (a b d e f : Int) (hp : 0 ≤ p) (hp2 : p ≤ 549755813888) : MutOK Tryd.prog 27 [.ptr 0 0, .row 1] 2 [(0, srcBox c p), (1, .row 2 1 5 (fun i => ([[D.v (.int .i64 a)], [D.v (.int .i64 b)], [D.v (.int .i64 d)], [D.v (.int .i64 e)], [D.v (.int .i64 f)]] : List (List D)).getD i []))] (di (pk c p [a, b, d, e, f])) 2 [(0, srcBox c (p + 1)), (1, rowE [a, b, d, e, f])] := c_spec_l1Pick c hc p [a, b, d, e, f] hp hp2 (by simp)
theorem pick6 (c : List Int) (hc : okCode c) (p : Int) (a b d e f g : Int) (hp : 0 ≤ p) (hp2 : p ≤ 549755813888) : MutOK Tryd.prog 27 [.ptr 0 0, .row 1] 2 [(0, srcBox c p), (1, .row 2 1 6 (fun i => ([[D.v (.int .i64 a)], [D.v (.int .i64 b)], [D.v (.int .i64 d)], [D.v (.int .i64 e)], [D.v (.int .i64 f)], [D.v (.int .i64 g)]] : List (List D)).getD i []))] (di (pk c p [a, b, d, e, f, g])) 2 [(0, srcBox c (p + 1)), (1, rowE [a, b, d, e, f, g])] := c_spec_l1Pick c hc p [a, b, d, e, f, g] hp hp2 (by simp)
theorem pick7 (c : List Int) (hc : okCode c) (p : Int) (a b d e f g h : Int) (hp : 0 ≤ p) (hp2 : p ≤ 549755813888) : MutOK Tryd.prog 27 [.ptr 0 0, .row 1] 2 [(0, srcBox c p), (1, .row 2 1 7 (fun i => ([[D.v (.int .i64 a)], [D.v (.int .i64 b)], [D.v (.int .i64 d)], [D.v (.int .i64 e)], [D.v (.int .i64 f)], [D.v (.int .i64 g)], [D.v (.int .i64 h)]] : List (List D)).getD i []))] (di (pk c p [a, b, d, e, f, g, h])) 2 [(0, srcBox c (p + 1)), (1, rowE [a, b, d, e, f, g, h])] := c_spec_l1Pick c hc p [a, b, d, e, f, g, h] hp hp2 (by simp)
end Go.Proofs.YtcllbnancmogfaaDoor.L

/- The law function over a machine that goes back from a trap answers true. -/
set_option linter.unusedVariables false
set_option linter.unusedSimpArgs false
set_option maxRecDepth 100000
namespace Go.Proofs.YtcllbnancmogfaaDoor.L
open Go.RowKit
theorem backHart_few (m : HartM) (hf : m.few) (hs : m.small) : (backHart m).2.few ∧ (backHart m).2.small := by
  unfold backHart
  split
  · exact ⟨⟨hf.regs, by simpa [backM] using hf.csr, hf.inp, hf.out⟩, ⟨hs.regs, by simpa [backM] using hs.csr, hs.inp, hs.out⟩⟩
  · exact hartZ_few
end Go.Proofs.YtcllbnancmogfaaDoor.L

/- The law functions over a machine that is fed answer true. -/
set_option linter.unusedVariables false
set_option linter.unusedSimpArgs false
set_option maxRecDepth 100000
namespace Go.Proofs.YtcllbnancmogfaaDoor.L
open Go.RowKit
theorem hK_b (m : HartM) (k : Int) (hf : m.few) (h1 : 0 ≤ k) (h2 : k ≤ 1048576) : 0 ≤ hK4 m k ∧ hK4 m k ≤ k + 4194304 := by
  obtain ⟨b1, b2, b3, b4⟩ := hf
  unfold hK4 hK3 hK2 hK1
  omega
theorem ints_b (l : List Int) (k : Int) (hf : l.length ≤ 1048576) (h1 : 0 ≤ k) (h2 : k ≤ 1099511627776) : 0 ≤ k + l.length ∧ k + l.length ≤ k + 1048576 := by omega
theorem feedHart_few (m : HartM) (hf : m.few) (hs : m.small) (l : List Int) (hl : l.length ≤ 1048576) : (feedHart m l).2.few ∧ (feedHart m l).2.small := by
  unfold feedHart
  split
  · cases h1 : (!l.all isW)
    · cases h2 : decide ((m.inp.length : Int) + l.length > 40)
      · have h2 : ¬ ((m.inp.length : Int) + l.length > 40) := by simpa using h2
        have e : (m.inp ++ l).length = m.inp.length + l.length := by simp
        exact ⟨⟨hf.regs, hf.csr, by show (m.inp ++ l).length ≤ _; omega, hf.out⟩, ⟨hs.regs, hs.csr, by show (m.inp ++ l).length * 8 ≤ _; omega, hs.out⟩⟩
      · exact hartZ_few
    · exact hartZ_few
  · exact hartZ_few
end Go.Proofs.YtcllbnancmogfaaDoor.L

/- The law function over a machine that is trap answers true. -/
set_option linter.unusedVariables false
set_option linter.unusedSimpArgs false
set_option maxRecDepth 100000
namespace Go.Proofs.YtcllbnancmogfaaDoor.L
open Go.RowKit
theorem trapHart_few (m : HartM) (hf : m.few) (hs : m.small) (c t : Int) : (trapHart m c t).2.few ∧ (trapHart m c t).2.small := by
  unfold trapHart
  split
  · cases h1 : (!inR c 0 31 || !isW t)
    · exact ⟨⟨hf.regs, by simpa [trapM] using hf.csr, hf.inp, hf.out⟩, ⟨hs.regs, by simpa [trapM] using hs.csr, hs.inp, hs.out⟩⟩
    · exact hartZ_few
  · exact hartZ_few
end Go.Proofs.YtcllbnancmogfaaDoor.L

/- The law over traps answers true. -/
set_option linter.unusedVariables false
set_option linter.unusedSimpArgs false
set_option maxRecDepth 100000
namespace Go.Proofs.YtcllbnancmogfaaDoor.L
open Go.RowKit
theorem c_spec_DrawTrapHart (c : List Int) (hc : okCode c) : FnS Tryd.prog 12 [.d (bytesD c)] (fun r => ∃ (m : HartM) (k w : Int), m.small ∧ m.few ∧ r = .tup [hartSh m, .one (.v (.int .i64 k)), .one (.v (.int .i64 w))]) := by
  refine fnS_fn_of lv12 Tryd.func12 rfl rfl (by kernel_rfl) rfl ?_
  refine .inr ⟨rfl, use_mut ⟨_, _, _, _, _, _, rfl, rfl, c_spec_l1Source c, rfl, ?_⟩⟩
  refine .inr ⟨rfl, use_mutS ⟨_, _, _, _, rfl, rfl, c_spec_l8Bent c hc 0 (by omega) (by omega), rfl, ?_⟩⟩
  rintro _ _ _ ⟨m, q, hs, hf, hq1, hq2, rfl, rfl, rfl⟩
  refine ⟨rfl, ?_⟩
  refine .inr ⟨_, _, use_mut ⟨_, _, _, _, _, _, rfl, rfl, c_spec_l1Next c hc q 5 (by omega) (by omega), rfl, ⟨rfl, rfl⟩⟩, ?_⟩
  refine .inr ⟨_, _, use_mut ⟨_, _, _, _, _, _, rfl, rfl, c_spec_l1Next c hc (q + 1) 3 (by omega) (by omega), rfl, ⟨rfl, rfl⟩⟩, ?_⟩
  refine .inr ⟨_, _, use_mut ⟨_, _, _, _, _, _, rfl, rfl, pick4 c hc (q + 1 + 1) _ _ 32 (-1) (by omega) (by omega), rfl, ⟨rfl, rfl⟩⟩, ?_⟩
  refine .inr ⟨_, _, use_mut ⟨_, _, _, _, _, _, rfl, rfl, c_spec_l1Next c hc (q + 1 + 1 + 1) 99 (by omega) (by omega), rfl, ⟨rfl, rfl⟩⟩, ?_⟩
  refine .inr ⟨_, _, use_mut ⟨_, _, _, _, _, _, rfl, rfl, c_spec_l1Next c hc (q + 1 + 1 + 1 + 1) 99 (by omega) (by omega), rfl, ⟨rfl, rfl⟩⟩, ?_⟩
  refine .inr ⟨_, _, use_mut ⟨_, _, _, _, _, _, rfl, rfl, pick3 c hc (q + 1 + 1 + 1 + 1 + 1) _ _ (-1) (by omega) (by omega), rfl, ⟨rfl, rfl⟩⟩, ?_⟩
  refine chk_intro (by kernel_rfl) ?_
  exact ⟨_, ⟨m, _, _, hs, hf, rfl⟩, ⟨DLe.refl _, rfl, DLe.refl _, rfl, rfl, rfl, rfl, DLe.refl _, DLe.refl _, rfl, rfl, trivial⟩, rfl⟩
theorem set_getT (l : List Int) (i j : Nat) (v : Int) (hi : i < l.length) : (l.set i v).getD j 0 = if j = i then v else l.getD j 0 := by
  simp only [List.getD]
  by_cases e : j = i
  · subst e; rw [if_pos rfl, List.getElem?_set_self hi]; rfl
  · rw [if_neg e, List.getElem?_set_ne (Ne.symm e)]
theorem set_all {l : List Int} {p : Int → Prop} (h : ∀ x ∈ l, p x) (i : Nat) (v : Int) (hv : p v) : ∀ x ∈ l.set i v, p x := fun x hx => (List.mem_or_eq_of_mem_set hx).elim (h x) (fun e => e ▸ hv)
theorem isW_iffT {n : Int} : isW n = true ↔ 0 ≤ n ∧ n ≤ 4294967295 := inR_iff
theorem mem_getD {l : List Int} {i : Nat} (h : i < l.length) : l.getD i 0 ∈ l := by
  simp only [List.getD]
  rw [List.getElem?_eq_getElem h]
  exact List.getElem_mem h
theorem trapM_right {m : HartM} (h : m.right) {c t : Int} (hc : inR c 0 31 = true) (ht : isW t = true) : (trapM m c t).right ∧ (trapM m c t).csr.getD 0 0 = Int.tmod (m.csr.getD 0 0) 2 * 2 ∧ (trapM m c t).csr.getD 2 0 = m.pc ∧ (trapM m c t).csr.getD 3 0 = c := by
  obtain ⟨h1, h2, h3, h4, h5, h6, h7, h8, h9, h10, h11, h12, h13, h14, h15, h16⟩ := h
  have hc := inR_iff.1 hc
  have w0 := isW_iffT.1 (h6 _ (mem_getD (i := 0) (by omega)))
  have e0 : Int.tmod (m.csr.getD 0 0) 2 = m.csr.getD 0 0 % 2 := Int.tmod_eq_emod_of_nonneg w0.1
  have hw : IntKind.i64.wrap (Int.tmod (m.csr.getD 0 0) 2 * 2) = Int.tmod (m.csr.getD 0 0) 2 * 2 := wrap_i64 _ (by omega) (by omega)
  have hg : ∀ j, (trapM m c t).csr.getD j 0 = if j = 0 then Int.tmod (m.csr.getD 0 0) 2 * 2 else if j = 4 then t else if j = 3 then c else if j = 2 then m.pc else m.csr.getD j 0 := fun j => by
    show ((((m.csr.set 2 m.pc).set 3 c).set 4 t).set 0 (IntKind.i64.wrap (Int.tmod (m.csr.getD 0 0) 2 * 2))).getD j 0 = _
    rw [set_getT _ _ _ _ (by simp; omega), set_getT _ _ _ _ (by simp; omega), set_getT _ _ _ _ (by simp; omega), set_getT _ _ _ _ (by omega), hw]
  refine ⟨⟨h1, by show (trapM m c t).csr.length = 11; simp [trapM]; exact h2, h3, h4, h6 _ (mem_getD (by omega)), ?_, h7, h8, h9, h10, h11, ?_, ?_, ?_, ?_, ?_⟩, ?_, ?_, ?_⟩
  · show ∀ x ∈ (trapM m c t).csr, isW x = true
    exact set_all (set_all (set_all (set_all h6 2 _ h5) 3 _ (isW_iffT.2 (by omega))) 4 _ ht) 0 _ (by rw [hw]; exact isW_iffT.2 (by omega))
  · show (trapM m c t).csr.getD 0 0 ≤ 3
    rw [hg, if_pos rfl]; omega
  · show (trapM m c t).csr.getD 7 0 ≤ 7
    rw [hg]; exact h13
  · show (trapM m c t).csr.getD 10 0 ≤ 8
    rw [hg]; exact h14
  · show (trapM m c t).csr.getD 6 0 = 0
    rw [hg]; exact h15
  · show (trapM m c t).csr.getD 8 0 = 0
    rw [hg]; exact h16
  · rw [hg, if_pos rfl]
  · rw [hg]; rfl
  · rw [hg]; rfl
theorem backM_right {m : HartM} (h : m.right) : (backM m).right ∧ (backM m).csr.getD 0 0 = IntKind.i64.wrap (2 + Int.tdiv (m.csr.getD 0 0) 2) := by
  obtain ⟨h1, h2, h3, h4, h5, h6, h7, h8, h9, h10, h11, h12, h13, h14, h15, h16⟩ := h
  have w0 := isW_iffT.1 (h6 _ (mem_getD (i := 0) (by omega)))
  have e0 : Int.tdiv (m.csr.getD 0 0) 2 = m.csr.getD 0 0 / 2 := Int.tdiv_eq_ediv_of_nonneg w0.1
  have hw1 : IntKind.i64.wrap (Int.tdiv (m.csr.getD 0 0) 2) = Int.tdiv (m.csr.getD 0 0) 2 := wrap_i64 _ (by omega) (by omega)
  have hw : IntKind.i64.wrap (2 + Int.tdiv (m.csr.getD 0 0) 2) = 2 + Int.tdiv (m.csr.getD 0 0) 2 := wrap_i64 _ (by omega) (by omega)
  have hg : ∀ j, (backM m).csr.getD j 0 = if j = 0 then IntKind.i64.wrap (2 + Int.tdiv (m.csr.getD 0 0) 2) else m.csr.getD j 0 := fun j => by
    show ((m.csr.set 0 (IntKind.i64.wrap (2 + IntKind.i64.wrap (Int.tdiv (m.csr.getD 0 0) 2))))).getD j 0 = _
    rw [set_getT _ _ _ _ (by omega), hw1]
  refine ⟨⟨h1, by show (backM m).csr.length = 11; simp [backM]; exact h2, h3, h4, h6 _ (mem_getD (by omega)), ?_, h7, h8, h9, h10, h11, ?_, ?_, ?_, ?_, ?_⟩, ?_⟩
  · show ∀ x ∈ (backM m).csr, isW x = true
    exact set_all h6 0 _ (by rw [hw1, hw]; exact isW_iffT.2 (by omega))
  · show (backM m).csr.getD 0 0 ≤ 3
    rw [hg, if_pos rfl]; omega
  · show (backM m).csr.getD 7 0 ≤ 7
    rw [hg]; exact h13
  · show (backM m).csr.getD 10 0 ≤ 8
    rw [hg]; exact h14
  · show (backM m).csr.getD 6 0 = 0
    rw [hg]; exact h15
  · show (backM m).csr.getD 8 0 = 0
    rw [hg]; exact h16
  · rw [hg, if_pos rfl]
theorem trap_zero {m r : HartM} {c t : Int} (h : (0, r) = trapHart m c t) : m.right ∧ inR c 0 31 = true ∧ isW t = true ∧ r = trapM m c t := by
  unfold trapHart at h
  split at h
  · rename_i h0
    cases h1 : (!inR c 0 31 || !isW t) with
    | true => rw [h1] at h; simp at h
    | false =>
      rw [h1] at h
      simp only [Bool.or_eq_false_iff, Bool.not_eq_eq_eq_not, Bool.not_false] at h1
      exact ⟨hFault_right h0, h1.1, h1.2, by simpa using h⟩
  · rename_i h0
    simp only [Prod.mk.injEq] at h
    exact absurd h.1.symm h0
set_option maxHeartbeats 3200000 in
theorem c_laws_FnTraps (c : List Int) (ho : okBytes c) : FnOK Tryd.prog 4 [.d (bytesD c)] (rb true) := by
  have hrb := reach_eq
  have hlen : c.length * 1 ≤ 140737488351232 := by have := ho.1; omega
  refine fn_of lv4 Tryd.func4 rfl rfl (by kernel_rfl) rfl ?_
  refine .inl ⟨_, _, rfl, c_laws_lwBig c (by omega), rfl, ?_⟩
  refine bsplit_intro (fun h => ?_) (fun h => ?_)
  · exact ⟨⟨rfl, trivial⟩, rfl⟩
  have hc := ho.code h
  refine .inr ⟨rfl, use_fn ⟨_, _, rfl, c_spec_DrawTrapHart c hc, ?_⟩⟩
  rintro _ ⟨m, k, w, hs, hf, rfl⟩
  refine ⟨rfl, ?_⟩
  obtain ⟨⟨code, r⟩, hq⟩ : ∃ q, q = trapHart m k w := ⟨_, rfl⟩
  have hsr := trapHart_few m hf hs k w
  rw [← hq] at hsr
  have ci := c_impl_TrapHart m hs k w
  rw [← hq] at ci
  have cs := c_spec_TrapHart m hs k w
  rw [← hq] at cs
  by_cases h0 : code = 0
  rotate_left
  · refine .inl ⟨_, _, rfl, ci, rfl, ?_⟩
    refine bsplit_of_true (by simp; exact h0) ?_
    refine .inl ⟨_, _, rfl, cs, rfl, ?_⟩
    refine chk_intro (by kernel_rfl) ?_
    exact ⟨⟨congrArg Value.bool (by simp), trivial⟩, rfl⟩
  subst h0
  obtain ⟨hm, hk, hw, hr⟩ := trap_zero hq
  obtain ⟨hrr, e0, e2, e3⟩ := trapM_right hm hk hw
  rw [← hr] at hrr e0 e2 e3
  obtain ⟨hbr, f0⟩ := backM_right hrr
  have hrs : r.small := hsr.2
  have hbs := (backHart_few r hsr.1 hrs).2
  have eb : backHart r = (0, backM r) := by unfold backHart; rw [if_pos (right_hFault hrr)]
  rw [eb] at hbs
  have hbs : (backM r).small := hbs
  have cb := c_impl_BackHart r hrs
  rw [eb] at cb
  have w0 := isW_iffT.1 (hm.wc _ (mem_getD (i := 0) (by have := hm.csr; omega)))
  have t0 : Int.tmod (m.csr.getD 0 0) 2 = m.csr.getD 0 0 % 2 := Int.tmod_eq_emod_of_nonneg w0.1
  have cd := c_impl_DueOf r hrs
  have hdue : dueOf r = (4, 0) := by
    unfold dueOf
    have : (r.csr.getD 0 0).tmod 2 = 0 := by
      rw [e0, Int.tmod_eq_emod_of_nonneg (by omega)]; omega
    rw [if_pos (right_hFault hrr), if_pos (by unfold dueI; rw [if_pos this]; omega)]
  rw [hdue] at cd
  have g3 := c_impl_GetCsr r hrs 3
  have g2 := c_impl_GetCsr r hrs 2
  rw [getCsr_right hrr 3 (by omega) (by omega), show csrOf r 3 = k from by unfold csrOf; rw [if_neg (by omega), if_neg (by omega)]; exact e3] at g3
  rw [getCsr_right hrr 2 (by omega) (by omega), show csrOf r 2 = m.pc from by unfold csrOf; rw [if_neg (by omega), if_neg (by omega)]; exact e2] at g2
  obtain ⟨b, hb⟩ : ∃ b, b = backM r := ⟨_, rfl⟩
  have p1 : b.pc = m.pc := by rw [hb]; exact e2
  have p2 : b.regs = m.regs := by rw [hb]; show r.regs = _; rw [hr]; rfl
  have p3 : b.done = m.done := by rw [hb]; show r.done = _; rw [hr]; rfl
  have p4 : b.csr.getD 0 0 = IntKind.i64.wrap (2 + Int.tmod (m.csr.getD 0 0) 2) := by
    rw [hb, f0, e0, Int.tdiv_eq_ediv_of_nonneg (by omega), Int.mul_ediv_cancel _ (by omega)]
  have p5 : r.pc = m.csr.getD 1 0 := by rw [hr]; rfl
  have p6 : r.waiting = false := by rw [hr]; rfl
  have cf1 : FnOK Tryd.prog 16 [hartLV r] (ri 0) := by have := c_impl_HartFault r hrs; rwa [right_hFault hrr] at this
  have cf2 : FnOK Tryd.prog 16 [hartLV (backM r)] (ri 0) := by have := c_impl_HartFault (backM r) hbs; rwa [right_hFault hbr] at this
  have hbl : b.csr.length = 11 := by rw [hb]; exact hbr.csr
  have hrl : r.csr.length = 11 := hrr.csr
  have hml : m.csr.length = 11 := hm.csr
  rw [← hb] at cb cf2
  have hmreg := hs.regs
  have cn : FnOK Tryd.prog 17 [.d (ints b.regs), .d (ints m.regs)] (rb (b.regs == m.regs)) := c_laws_lwNums _ _ (by rw [p2]; omega)
  refine .inl ⟨_, _, rfl, ci, rfl, ?_⟩
  refine bsplit_of_false rfl ?_
  refine .inl ⟨_, _, rfl, cb, rfl, ?_⟩
  refine .inl ⟨_, _, rfl, cf1, rfl, ?_⟩
  repeat' (first | refine bsplit_true ?_ | refine bsplit_false ?_)
  refine .inl ⟨_, _, rfl, cf2, rfl, ?_⟩
  repeat' (first | refine bsplit_true ?_ | refine bsplit_false ?_)
  refine ask_intro ⟨by omega, by show (1 : Int) < (m.csr.length : Int); omega, rfl⟩ ?_
  repeat' (first | refine bsplit_true ?_ | refine bsplit_false ?_)
  refine bsplit_of_false (show (r.pc != m.csr.getD 1 0) = false by rw [p5]; simp) ?_
  repeat' (first | refine bsplit_true ?_ | refine bsplit_false ?_)
  refine .inl ⟨_, _, rfl, cd, rfl, ?_⟩
  repeat' (first | refine bsplit_true ?_ | refine bsplit_false ?_)
  refine chk_intro (by kernel_rfl) ?_
  refine bsplit_of_false rfl ?_
  refine ask_intro ⟨by omega, by show (0 : Int) < (m.csr.length : Int); omega, rfl⟩ ?_
  refine ask_intro (by decide) ?_
  refine bsplit_of_true (show (b.pc == m.pc) = true by rw [p1]; simp) ?_
  repeat' (first | refine bsplit_true ?_ | refine bsplit_false ?_)
  refine ask_intro ⟨by omega, by show (0 : Int) < (b.csr.length : Int); omega⟩ ?_
  repeat' (first | refine bsplit_true ?_ | refine bsplit_false ?_)
  refine ask_intro (by show 0 < b.csr.length; omega) ?_
  repeat' (first | refine bsplit_true ?_ | refine bsplit_false ?_)
  refine bsplit_of_true (show (b.csr.getD 0 0 == IntKind.i64.wrap (2 + Int.tmod (m.csr.getD 0 0) 2)) = true by rw [p4]; simp) ?_
  repeat' (first | refine bsplit_true ?_ | refine bsplit_false ?_)
  refine .inl ⟨_, _, rfl, cn, rfl, ?_⟩
  repeat' (first | refine bsplit_true ?_ | refine bsplit_false ?_)
  refine bsplit_of_true (show (b.regs == m.regs) = true by rw [p2]; simp) ?_
  repeat' (first | refine bsplit_true ?_ | refine bsplit_false ?_)
  refine bsplit_of_true (show (b.done == m.done) = true by rw [p3]; simp) ?_
  repeat' (first | refine bsplit_true ?_ | refine bsplit_false ?_)
  refine .inl ⟨_, _, rfl, g3, rfl, ?_⟩
  repeat' (first | refine bsplit_true ?_ | refine bsplit_false ?_)
  refine bsplit_of_true (show (k == k) = true by simp) ?_
  repeat' (first | refine bsplit_true ?_ | refine bsplit_false ?_)
  refine .inl ⟨_, _, rfl, g2, rfl, ?_⟩
  repeat' (first | refine bsplit_true ?_ | refine bsplit_false ?_)
  refine bsplit_of_true (show (m.pc == m.pc) = true by simp) ?_
  repeat' (first | refine bsplit_true ?_ | refine bsplit_false ?_)
  refine chk_intro (by kernel_rfl) ?_
  exact ⟨⟨congrArg Value.bool (show (!r.waiting) = true by rw [p6]; rfl), trivial⟩, rfl⟩
end Go.Proofs.YtcllbnancmogfaaDoor.L

/- The law FnTraps answers true at every input that its statement lets in. -/
set_option linter.unusedVariables false
set_option maxRecDepth 100000
namespace Go.Proofs.YtcllbnancmogfaaDoor.L.FnTraps
open Go.RowKit Go.ChangeShapes Go.WideShapes Go.ChangeAt
noncomputable def laidWorld (os : Os) : World :=
  let w0 := World.holding Tryd.prog os ⟨#[], #[], []⟩
  { w0 with heap := (w0.heap.modify 0 fun
      | .cells _ t frozen => .cells (([0, 1, 56, 2, 57, 49, 28, 3, 61, 58, 42, 50, 38, 29, 17, 4, 62, 47, 59, 36, 45, 43, 51, 22, 53, 39, 33, 30, 24, 18, 12, 5, 63, 55, 48, 27, 60, 41, 37, 16, 46, 35, 44, 21, 52, 32, 23, 11, 54, 26, 40, 15, 34, 20, 31, 10, 25, 14, 19, 9, 13, 8, 7, 6] : List Int).map (Value.int .u8)).toArray t frozen
      | o => o) }
theorem laidWorld_met (os : Os) (args : Array Value) : laidMetH Tryd.prog Rows.fnTrapsRow.laid ((laidWorld os).forCall (fun _ _ => 0) ⟨#[], args, []⟩).memory :=
  show laidMet Tryd.prog Rows.fnTrapsRow.laid _ from laidMet_of_run' 8 (by kernel_rfl) (by kernel_rfl)
theorem gl_of_laid {W : World} (h : laidMetH Tryd.prog Rows.fnTrapsRow.laid W) : GlOK (Mem W) W := by
  have h' : laidMet Tryd.prog Rows.fnTrapsRow.laid W := h
  obtain ⟨ps, hv, _⟩ := h'
  intro g k zs hg
  rcases List.mem_cons.1 hg with e | hg
  · cases e
    have t := tab_of_laid (P := Tryd.prog) (W := W) (name := "math/bits.deBruijn64tab") (k := .u8) (zs := [0, 1, 56, 2, 57, 49, 28, 3, 61, 58, 42, 50, 38, 29, 17, 4, 62, 47, 59, 36, 45, 43, 51, 22, 53, 39, 33, 30, 24, 18, 12, 5, 63, 55, 48, 27, 60, 41, 37, 16, 46, 35, 44, 21, 52, 32, 23, 11, 54, 26, 40, 15, 34, 20, 31, 10, 25, 14, 19, 9, 13, 8, 7, 6]) (g := 0) (t := 69) (e := 5) (n := 64) (by kernel_rfl) (by kernel_rfl) (by kernel_rfl) (by kernel_rfl) (by kernel_rfl) (by kernel_rfl) hv (List.Mem.head _)
    exact gl_tab t (by kernel_rfl) (by simp)
  cases hg
theorem lifted (os : Os) (started : os.Started) (H : Type) (enc : TypeId × Value → H) :
    ReturnsInHanded {} Tryd.checked os 4 .any (fun w args => (Rows.fnTrapsSpec.pre enc Tryd.prog Tryd.f4 Rows.fnTrapsRow.domain false w args ∧ laidMetH Tryd.prog Rows.fnTrapsRow.laid w) ∧ sizedMet enc Tryd.prog Tryd.f4 (OpenSpec.ofChange Rows.fnTrapsSpec) false w args) (Rows.fnTrapsSpec.post enc Tryd.prog Tryd.f4 false true false false) := by
  refine returnsInHanded_of_change_and (C := Tryd.checked) (X := fun w _ => laidMetH Tryd.prog Rows.fnTrapsRow.laid w) (fun _ _ _ hh h => h.of_heap hh) own started (by kernel_rfl) Tryd.func4
    (ChangeSpec.witness_at (enc := enc) (C := Tryd.checked) (os := os) (X := fun w _ => laidMetH Tryd.prog Rows.fnTrapsRow.laid w) false (laidWorld os) #[.slice none 0 0] 8 rfl (by kernel_rfl) (by kernel_rfl) (by kernel_rfl) (by kernel_rfl) (by kernel_rfl) (laidWorld_met os _)) ?_
  intro W base args ds gs before hval0 hW hcnd hsz0 hL _
  have hsz : (DataW.weightsEach Tryd.prog (Tryd.f4.params.toList ++ Rows.fnTrapsSpec.plain.varTypes Tryd.prog) (ds ++ gs)).all (· ≤ reachBytes) = true := hsz0
  have hval : ∀ (j : Nat) t v, Tryd.f4.params[j]? = some t → args[j]? = some v → Value.okWide Tryd.prog W .any base t v := hval0
  have hW' := hW
  obtain ⟨p, q, hA0, hV, rfl, hfz, hnd⟩ := hW
  have hA : DataW.TrodAll enc Tryd.prog W 0 (fun _ => true) true Tryd.f4.params.toList args.toList ds p := hA0
  rw [Tryd.params4] at hA hval hsz
  obtain ⟨v0, vs0, d0, ds0, p0, q0, hargs, rfl, rfl, h0, r0⟩ := trodAll_cons hA
  obtain ⟨rfl, rfl, rfl⟩ := trodAll_nil r0
  obtain rfl : args = #[v0] := by cases args; simp_all
  obtain ⟨rfl, rfl⟩ := trodVars_none hV
  have hsm : ∀ k ∈ DataW.weightsEach Tryd.prog ([34] ++ Rows.fnTrapsSpec.plain.varTypes Tryd.prog) ([d0] ++ []), k ≤ reachBytes := fun k hk => by simpa using List.all_eq_true.1 hsz k hk
  have k0 := h0
  have lt0 : ∀ x ∈ p0, x.block < W.heap.size := by obtain ⟨m, hm⟩ := k0; exact DataW.trod_lt m _ _ _ hm
  have c0 : v0.cells = #[v0] := by have z := okWide_slice Tryd.underlying34 (hval 0 34 v0 rfl rfl); (first | (obtain ⟨_, rfl⟩ := z; rfl) | (obtain ⟨_, _, _, rfl⟩ := z; rfl))
  obtain ⟨m0, hm0, hvr0⟩ := reads_bytes.one c0 h0 (fun k hk => hsm k (DataW.weights_mem_each (j := 0) rfl rfl k hk))
  refine ((c_laws_FnTraps m0 hm0).calls W (Mem W) [v0] ⟨fun b hb => hb, gl_of_laid hL⟩ rfl (fun j hj => ?_)).mono fun e W' ⟨v, he, bel, hrr⟩ => ?_
  · match j, hj with
    | 0, _ => exact hvr0
    | j + 1, hj => exact absurd hj (by simp)
  · obtain ⟨us, J, hl, rfl, hJ, hok, _, _⟩ := hrr.ex
    have h1 := hok 0 _ rfl
    have h2 : RV.val us (rb true) = .bool true := h1
    rw [h2] at he
    subst he
    exact ⟨_, rfl, _, _, _, [], _, [], hW', trodAll_mk1 (shut_bool Tryd.underlying4 _), (trodAll_cons_mk (Below.trod laidOut (by kernel_rfl) (of_decide_eq_true (by kernel_rfl)) k0 bel lt0) trodAll_mk0), rfl, bel.frame _, fun h => by cases h⟩
theorem over : Rows.fnTrapsRow.holds Tryd.pinned (OpenSpec.ofChange Rows.fnTrapsSpec) :=
  OpenClaim.holds_of_wide 4 Tryd.f4 rfl rfl rfl rfl rfl rfl rfl ⟨rfl, rfl, rfl, rfl, rfl⟩ rfl rfl rfl rfl rfl (by kernel_rfl) Tryd.func4 (by kernel_rfl)
    (of_decide_eq_true (by kernel_rfl)) (by unfold Func.isWrapper; first | (rw [if_pos (by decide +kernel)]; kernel_rfl) | (rw [if_neg (by decide +kernel)]; exact ⟨rfl, rfl⟩))
    (fun os started H enc _ => lifted os started H enc)
theorem card : Rows.FnTrapsCardSaid :=
  Claim7.holds_tied_plain_at .later [] [.data] true (true, "1363c46f8960ca75709407498905bb8222a74ca99450cacdce47cfc1816261cc") false over (fun _ h => by cases h) (by kernel_rfl) (fun _ h => by cases h) fnTraps_row_tie rfl ⟨rfl, rfl⟩ (by kernel_rfl) rfl
    (fun f fn hf hfn => by
      obtain rfl : f = 4 := (Option.some.inj ((show Tryd.prog.funcNamed "loop.example/g00213/laws.FnTraps" = some 4 by kernel_rfl).symm.trans hf)).symm
      obtain rfl : fn = Tryd.f4 := (Option.some.inj (Tryd.func4.symm.trans hfn)).symm
      refine ⟨by kernel_rfl, fun j t ht => ?_⟩
      rw [Tryd.params4] at ht
      rcases j with _ | j
      · obtain rfl : t = 34 := by simpa using ht.symm
        exact (show Tryd.prog.wantsStandIn 34 = false by kernel_rfl)
      simp at ht)
    (by kernel_rfl)
end Go.Proofs.YtcllbnancmogfaaDoor.L.FnTraps
namespace Go.Proofs.YtcllbnancmogfaaDoor
theorem fnTraps_holds : Rows.FnTrapsCardSaid := L.FnTraps.card
#print axioms fnTraps_holds
end Go.Proofs.YtcllbnancmogfaaDoor
