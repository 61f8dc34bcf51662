/- The law FnExactSoloText answers true at every input that its statement lets in. -/
import Derived.Test.YtfcekiehcchebaaDoorLt
import Derived.Test.YtfcekiehcchebaaDoorLr
import Derived.Test.YtfcekiehcchebaaDoorLs
import Derived.Test.YtfcekiehcchebaaDoorLy
import Derived.Test.YtfcekiehcchebaaDoorMz
import Derived.Test.YtfcekiehcchebaaDoorMs
import Derived.Test.YtfcekiehcchebaaDoorRows
import Derived.Test.YtfcekiehcchebaaDoorCards
import Derived.Test.YtfcekiehcchebaaDoorTie
import Derived.SevenTiedAt
import Derived.LaidLaws
/- What the functions over words and rows of words compute: contracts, for rows that fit into memory. -/
set_option linter.unusedVariables false
set_option linter.unusedSimpArgs false
set_option maxRecDepth 100000
namespace Go.Proofs.YtfcekiehcchebaaDoor.L
open Go.RowKit
abbrev dv (v : Value) : LV := .d (.v v)
abbrev di (n : Int) : LV := .d (.v (.int .i64 n))
abbrev rb (b : Bool) : RV := .r (.one (.v (.bool b)))
abbrev ri (n : Int) : RV := .r (.one (.v (.int .i64 n)))
abbrev ints (l : List Int) : D := .l l.length fun i => [.v (.int .i64 (l.getD i 0))]

def inR (n a b : Int) : Bool := decide (a ≤ n) && decide (n ≤ b)
def isW (n : Int) : Bool := inR n 0 4294967295
theorem eqv {α : Type} {f : α → Value} {a b : α} (h : a = b) : f a = f b := by rw [h]

theorem c_impl_within (n a b : Int) : FnOK Tryd.prog 36 [di n, di a, di b] (rb (inR n a b)) := by
  refine fn_of lv36 Tryd.func36 rfl rfl rfl rfl ?_
  refine bsplit_intro (fun h => ?_) (fun h => ?_)
  · repeat' (first | refine bsplit_true ?_ | refine bsplit_false ?_)
    refine ⟨⟨congrArg Value.bool (?_ : decide (n ≤ b) = _), trivial⟩, rfl⟩
    simp at h; simp [inR, h]
  · repeat' (first | refine bsplit_true ?_ | refine bsplit_false ?_)
    refine ⟨⟨congrArg Value.bool (?_ : false = _), trivial⟩, rfl⟩
    simp at h; simp [inR]; omega
theorem c_spec_l1In (n a b : Int) : FnOK Tryd.prog 33 [di n, di a, di b] (rb (inR n a b)) := by
  refine fn_of lv33 Tryd.func33 rfl rfl rfl rfl ?_
  refine bsplit_intro (fun h => ?_) (fun h => ?_)
  · repeat' (first | refine bsplit_true ?_ | refine bsplit_false ?_)
    refine ⟨⟨congrArg Value.bool (?_ : decide (n ≤ b) = _), trivial⟩, rfl⟩
    simp at h; simp [inR, h]
  · repeat' (first | refine bsplit_true ?_ | refine bsplit_false ?_)
    refine ⟨⟨congrArg Value.bool (?_ : false = _), trivial⟩, rfl⟩
    simp at h; simp [inR]; omega

theorem c_impl_isWord (n : Int) : FnOK Tryd.prog 35 [di n] (rb (isW n)) := by
  refine fn_of lv35 Tryd.func35 rfl rfl rfl rfl ?_
  refine .inl ⟨_, _, rfl, c_impl_within _ _ _, rfl, ?_⟩
  exact ⟨⟨rfl, trivial⟩, rfl⟩
theorem c_spec_l8Word (n : Int) : FnOK Tryd.prog 32 [di n] (rb (isW n)) := by
  refine fn_of lv32 Tryd.func32 rfl rfl rfl rfl ?_
  refine .inl ⟨_, _, rfl, c_spec_l1In _ _ _, rfl, ?_⟩
  exact ⟨⟨rfl, trivial⟩, rfl⟩
theorem c_impl_areWords_1 (n : Int) : FnOK Tryd.prog 51 [di n] (rb (!isW n)) := by
  refine fn_of lv51 Tryd.func51 rfl rfl rfl rfl ?_
  refine .inl ⟨_, _, rfl, c_impl_isWord _, rfl, ?_⟩
  exact ⟨⟨rfl, trivial⟩, rfl⟩

theorem drop_all (l : List Int) (p : Int → Bool) (i : Nat) (h : i < l.length) : (l.drop i).all p = (p (l.getD i 0) && (l.drop (i + 1)).all p) := by
  rw [List.drop_eq_getElem_cons h, List.all_cons]
  simp [List.getD, List.getElem?_eq_getElem h]
theorem wrap_i64 (n : Int) (h1 : -9223372036854775808 ≤ n) (h2 : n < 9223372036854775808) : IntKind.i64.wrap n = n := by rw [IntKind.wrap_i64]; omega

theorem c_spec_l8All (l : List Int) (hl : l.length ≤ 9223372036854775807) : FnOK Tryd.prog 31 [.d (ints l)] (rb (l.all isW)) := by
  refine fn_of lv31 Tryd.func31 rfl rfl rfl rfl ?_
  refine ⟨{ i : Nat // i ≤ l.length ∧ (l.drop i).all isW = l.all isW }, fun i => ⟨frL [(0, .d (ints l)), (3, di i.1)], hpL [], 0, 0⟩, fun i => l.length - i.1, ⟨0, by simp⟩, le_of [] rfl rfl rfl rfl trivial (tellFr_d rfl (DLe.refl _) (tellFr_v rfl rfl trivial)), ?_⟩
  rintro ⟨i, hi, hall⟩
  refine bsplit_intro (fun h => ?_) (fun h => ?_)
  · have h : i < l.length := by simp at h; exact h
    refine ask_intro ⟨by omega, by simp; omega, rfl⟩ ?_
    refine .inl ⟨_, _, rfl, c_spec_l8Word _, rfl, ?_⟩
    refine bsplit_intro (fun h2 => ?_) (fun h2 => ?_)
    · refine ⟨⟨congrArg Value.bool (?_ : false = _), trivial⟩, rfl⟩
      have h2 : isW (l.getD i 0) = false := by simpa using h2
      rw [← hall, drop_all l isW i h, h2]; rfl
    · have h2 : isW (l.getD i 0) = true := by simpa using h2
      refine ⟨⟨i + 1, by omega, ?_⟩, le_of [] rfl rfl rfl rfl trivial (tellFr_d rfl (DLe.refl _) (tellFr_v rfl (congrArg (Value.int .i64) (?_ : IntKind.i64.wrap ((i : Int) + 1) = ((i + 1 : Nat) : Int))) trivial)), ?_⟩
      · rw [← hall, drop_all l isW i h, h2]; rfl
      · exact wrap_i64 (i + 1) (by omega) (by omega)
      · show l.length - (i + 1) < l.length - i
        omega
  · refine ⟨⟨congrArg Value.bool (?_ : true = _), trivial⟩, rfl⟩
    simp at h
    rw [← hall, List.drop_eq_nil_of_le h]; rfl
theorem c_laws_szInt64S (l : List Int) (q : Int) (hq : -9223372036854775808 ≤ q - l.length) (hq2 : q - l.length < 9223372036854775808) : FnOK Tryd.prog 16 [.d (ints l), di q] (ri (if q - l.length < 0 then -1 else q - l.length)) := by
  refine fn_of lv16 Tryd.func16 rfl rfl rfl rfl ?_
  refine bsplit_intro (fun h => ?_) (fun h => ?_)
  · refine ⟨⟨congrArg (Value.int .i64) (?_ : (-1 : Int) = _), trivial⟩, rfl⟩
    rw [wrap_i64 _ hq hq2] at h
    simp only [decide_eq_true_eq] at h
    rw [if_pos h]
  · refine ⟨⟨congrArg (Value.int .i64) (?_ : IntKind.i64.wrap (q - l.length) = _), trivial⟩, rfl⟩
    rw [wrap_i64 _ hq hq2] at h ⊢
    simp only [decide_eq_false_iff_not] at h
    rw [if_neg h]
theorem drop_any (l : List Int) (p : Int → Bool) (i : Nat) (h : i < l.length) : (l.drop i).any p = (p (l.getD i 0) || (l.drop (i + 1)).any p) := by
  rw [List.drop_eq_getElem_cons h, List.any_cons]
  simp [List.getD, List.getElem?_eq_getElem h]
def idxOf (l : List Int) (p : Int → Bool) (i : Nat) : Int := bif (l.drop i).any p then (((l.drop i).findIdx p + i : Nat) : Int) else -1
theorem idx_hit {l : List Int} {p : Int → Bool} {i : Nat} (h : i < l.length) (hp : p (l.getD i 0) = true) : idxOf l p i = i := by
  unfold idxOf
  rw [drop_any l p i h, hp, List.drop_eq_getElem_cons h]
  have : p l[i] = true := by simpa [List.getD, List.getElem?_eq_getElem h] using hp
  rw [List.findIdx_cons, this]
  simp
theorem idx_miss {l : List Int} {p : Int → Bool} {i : Nat} (h : i < l.length) (hp : p (l.getD i 0) = false) : idxOf l p i = idxOf l p (i + 1) := by
  unfold idxOf
  rw [drop_any l p i h, hp, Bool.false_or, List.drop_eq_getElem_cons h]
  have : p l[i] = false := by simpa [List.getD, List.getElem?_eq_getElem h] using hp
  cases (List.drop (i + 1) l).any p with
  | false => rfl
  | true =>
    simp only [cond_true, List.findIdx_cons, this, cond_false]
    omega
theorem idx_end {l : List Int} {p : Int → Bool} {i : Nat} (h : l.length ≤ i) : idxOf l p i = -1 := by
  unfold idxOf
  rw [List.drop_eq_nil_of_le h]; rfl

theorem c_slices_IndexFunc (g : Nat) (p : Int → Bool) (hg : ∀ n, FnOK Tryd.prog g [di n] (rb (p n))) (l : List Int) (hl : l.length ≤ 9223372036854775807) : FnOK Tryd.prog 57 [.d (ints l), .fn g []] (ri (idxOf l p 0)) := by
  refine fn_of lv57 Tryd.func57 rfl rfl rfl rfl ?_
  refine ⟨{ i : Nat // i ≤ l.length ∧ idxOf l p i = idxOf l p 0 }, fun i => ⟨frL [(0, .d (ints l)), (1, .fn g []), (7, di l.length), (8, di i.1)], hpL [], 0, 0⟩, fun i => l.length - i.1, ⟨0, by simp⟩,
    le_of [] rfl rfl rfl rfl trivial (tellFr_d rfl (DLe.refl _) (tellFr_fn rfl trivial (tellFr_v rfl rfl (tellFr_v rfl rfl trivial)))), ?_⟩
  rintro ⟨i, hi, hall⟩
  refine bsplit_intro (fun h => ?_) (fun h => ?_)
  · have h : i < l.length := by simp at h; exact h
    refine ask_intro ⟨by omega, by simp; omega, rfl⟩ ?_
    refine .inl ⟨_, _, rfl, hg _, rfl, ?_⟩
    refine bsplit_intro (fun h2 => ?_) (fun h2 => ?_)
    · refine ⟨⟨congrArg (Value.int .i64) (?_ : (i : Int) = _), trivial⟩, rfl⟩
      rw [← hall]; exact (idx_hit h h2).symm
    · refine ⟨⟨i + 1, by omega, ?_⟩, le_of [] rfl rfl rfl rfl trivial (tellFr_d rfl (DLe.refl _) (tellFr_fn rfl trivial (tellFr_v rfl rfl (tellFr_v rfl (congrArg (Value.int .i64) (?_ : IntKind.i64.wrap ((i : Int) + 1) = ((i + 1 : Nat) : Int))) trivial)))), ?_⟩
      · rw [← hall]; exact (idx_miss h h2).symm
      · exact wrap_i64 (i + 1) (by omega) (by omega)
      · show l.length - (i + 1) < l.length - i
        omega
  · refine ⟨⟨congrArg (Value.int .i64) (?_ : (-1 : Int) = _), trivial⟩, rfl⟩
    simp at h
    rw [← hall, idx_end h]
theorem c_slices_ContainsFunc (g : Nat) (p : Int → Bool) (hg : ∀ n, FnOK Tryd.prog g [di n] (rb (p n))) (l : List Int) (hl : l.length ≤ 9223372036854775807) : FnOK Tryd.prog 50 [.d (ints l), .fn g []] (rb (l.any p)) := by
  refine fn_of lv50 Tryd.func50 rfl rfl rfl rfl ?_
  refine .inl ⟨_, _, rfl, c_slices_IndexFunc g p hg _ hl, rfl, ?_⟩
  refine ⟨⟨congrArg Value.bool (?_ : decide (idxOf l p 0 ≥ 0) = _), trivial⟩, rfl⟩
  unfold idxOf
  rw [List.drop_zero]
  cases l.any p <;> simp
theorem c_impl_areWords (l : List Int) (hl : l.length ≤ 9223372036854775807) : FnOK Tryd.prog 34 [.d (ints l)] (rb (l.all isW)) := by
  refine fn_of lv34 Tryd.func34 rfl rfl rfl rfl ?_
  refine .inl ⟨_, _, rfl, c_slices_ContainsFunc 51 (fun n => !isW n) c_impl_areWords_1 _ hl, rfl, ?_⟩
  refine ⟨⟨congrArg Value.bool (?_ : (!(l.any fun n => !isW n)) = _), trivial⟩, rfl⟩
  rw [List.all_eq_not_any_not]
abbrev intsF (l : List Int) (i : Nat) : List D := [.v (.int .i64 (l.getD i 0))]
abbrev oInts (l : List Int) : RC := .own 2 1 l.length (intsF l)
theorem c_laws_toInt64S (l : List Int) (hl : l.length * 8 ≤ 140737488355328) : FnOK Tryd.prog 19 [.d (ints l)] (.r (.one (oInts l))) := by
  refine fn_of lv19 Tryd.func19 rfl rfl rfl rfl ?_
  refine ask_intro ⟨rfl, by omega, by show (l.length : Int) * 8 ≤ 140737488355328; omega, by omega⟩ ?_
  refine ⟨{ i : Nat // i ≤ l.length }, fun i => ⟨frL [(0, .d (ints l)), (3, .row 96), (4, di i.1)], hpL [(96, .row 2 1 l.length fun j => if j < i.1 then intsF l j else [.v (.int .i64 0)])], 97, 0⟩, fun i => l.length - i.1, ⟨0, by omega⟩,
    le_of [(96, 4160)] rfl rfl rfl rfl (tellHp_row rfl rfl rfl (fun i hi => rfl) tellHp_nil) (tellFr_d rfl (DLe.refl _) (tellFr_row rfl rfl (tellFr_v rfl rfl trivial))), ?_⟩
  rintro ⟨i, hi⟩
  refine bsplit_intro (fun h => ?_) (fun h => ?_)
  · have h : i < l.length := by simp at h; exact h
    refine ask_intro ⟨by omega, by simp; omega, rfl⟩ ?_
    refine ask_intro ⟨by omega, by simp; omega⟩ ?_
    refine ask_intro (by show i < l.length; exact h) ?_
    refine ⟨⟨i + 1, by omega⟩, le_of [(96, 96)] rfl rfl rfl rfl (tellHp_row rfl rfl rfl (fun j hj => ?_) tellHp_nil) (tellFr_d rfl (DLe.refl _) (tellFr_row rfl rfl (tellFr_v rfl (congrArg (Value.int .i64) (?_ : IntKind.i64.wrap ((i : Int) + 1) = ((i + 1 : Nat) : Int))) trivial))), ?_⟩
    · show (if j = i then _ else if j < i then intsF l j else [.v (.int .i64 0)]) = if j < i + 1 then intsF l j else [.v (.int .i64 0)]
      by_cases h1 : j = i
      · subst h1
        rw [if_pos rfl, if_pos (by omega)]
        simp [splice, intsF]
      · rw [if_neg h1]
        by_cases h2 : j < i
        · rw [if_pos h2, if_pos (by omega)]
        · rw [if_neg h2, if_neg (by omega)]
    · exact wrap_i64 (i + 1) (by omega) (by omega)
    · show l.length - (i + 1) < l.length - i
      omega
  · simp at h
    refine ⟨⟨⟨rfl, rfl, rfl, fun j hj => ⟨?_, rfl⟩⟩, trivial⟩, rfl⟩
    show (if j < i then intsF l j else _) = _
    rw [if_pos (by omega)]
theorem drop_cons (l : List Int) (i : Nat) (h : i < l.length) : l.drop i = l.getD i 0 :: l.drop (i + 1) :=
  (List.drop_eq_getElem_cons h).trans (by rw [show l[i] = l.getD i 0 by simp [List.getD, List.getElem?_eq_getElem h]])
theorem c_laws_eqInt64S (l m : List Int) (hl : l.length ≤ 9223372036854775807) : FnOK Tryd.prog 23 [.d (ints l), .d (ints m)] (rb (l == m)) := by
  refine fn_of lv23 Tryd.func23 rfl rfl rfl rfl ?_
  refine bsplit_intro (fun h => ?_) (fun h => ?_)
  · refine ⟨⟨congrArg Value.bool (?_ : false = _), trivial⟩, rfl⟩
    simp at h
    symm
    rw [beq_eq_false_iff_ne]
    rintro rfl
    exact h rfl
  have hlen : l.length = m.length := by simp at h; omega
  refine ⟨{ i : Nat // i ≤ l.length ∧ (l.drop i == m.drop i) = (l == m) }, fun i => ⟨frL [(0, .d (ints l)), (1, .d (ints m)), (5, di i.1)], hpL [], 0, 0⟩, fun i => l.length - i.1, ⟨0, by simp⟩,
    le_of [] rfl rfl rfl rfl trivial (tellFr_d rfl (DLe.refl _) (tellFr_d rfl (DLe.refl _) (tellFr_v rfl rfl trivial))), ?_⟩
  rintro ⟨i, hi, hall⟩
  refine bsplit_intro (fun h => ?_) (fun h => ?_)
  · have h : i < l.length := by simp at h; exact h
    have hd : (l.drop i == m.drop i) = ((l.getD i 0 == m.getD i 0) && (l.drop (i + 1) == m.drop (i + 1))) := by
      rw [drop_cons l i h, drop_cons m i (by omega)]
      exact List.cons_beq_cons
    refine ask_intro ⟨by omega, by simp; omega, rfl⟩ ?_
    refine ask_intro ⟨by omega, by simp; omega, rfl⟩ ?_
    refine chk_intro rfl ?_
    refine bsplit_intro (fun h2 => ?_) (fun h2 => ?_)
    · refine ⟨⟨congrArg Value.bool (?_ : false = _), trivial⟩, rfl⟩
      have h2 : (l.getD i 0 != m.getD i 0) = true := h2
      rw [← hall, hd]
      have h2 : (l.getD i 0 == m.getD i 0) = false := by simpa [bne] using h2
      rw [h2]; rfl
    · have h2 : (l.getD i 0 != m.getD i 0) = false := h2
      refine ⟨⟨i + 1, by omega, ?_⟩, le_of [] rfl rfl rfl rfl trivial (tellFr_d rfl (DLe.refl _) (tellFr_d rfl (DLe.refl _) (tellFr_v rfl (congrArg (Value.int .i64) (?_ : IntKind.i64.wrap ((i : Int) + 1) = ((i + 1 : Nat) : Int))) trivial))), ?_⟩
      · rw [← hall, hd]
        have h2 : (l.getD i 0 == m.getD i 0) = true := by simpa [bne] using h2
        rw [h2]; rfl
      · exact wrap_i64 (i + 1) (by omega) (by omega)
      · show l.length - (i + 1) < l.length - i
        omega
  · refine ⟨⟨congrArg Value.bool (?_ : true = _), trivial⟩, rfl⟩
    simp at h
    rw [← hall, List.drop_eq_nil_of_le h, List.drop_eq_nil_of_le (by omega)]; rfl
end Go.Proofs.YtfcekiehcchebaaDoor.L

/- What the functions that look at a machine compute: contracts, for machines that fit into memory. -/
set_option linter.unusedVariables false
set_option linter.unusedSimpArgs false
set_option maxRecDepth 100000
namespace Go.Proofs.YtfcekiehcchebaaDoor.L
open Go.RowKit
structure HartM where
  regs : List Int
  pc : Int
  csr : List Int
  halted : Bool
  waiting : Bool
  rung : Bool
  done : Int
  inp : List Int
  out : List Int
  deriving DecidableEq
abbrev dI (n : Int) : D := .v (.int .i64 n)
abbrev dB (n : Bool) : D := .v (.bool n)
abbrev hartD (h : HartM) : List D := [ints h.regs, dI h.pc, ints h.csr, dB h.halted, dB h.waiting, dB h.rung, dI h.done, ints h.inp, ints h.out]
abbrev hartLV (h : HartM) : LV := .agg [.d (ints h.regs), di h.pc, .d (ints h.csr), dv (.bool h.halted), dv (.bool h.waiting), dv (.bool h.rung), di h.done, .d (ints h.inp), .d (ints h.out)]
abbrev hartR (h : HartM) : RV1 := .agg [oInts h.regs, .v (.int .i64 h.pc), oInts h.csr, .v (.bool h.halted), .v (.bool h.waiting), .v (.bool h.rung), .v (.int .i64 h.done), oInts h.inp, oInts h.out]

structure HartM.small (h : HartM) : Prop where
  regs : h.regs.length * 8 ≤ 140737488355328
  csr : h.csr.length * 8 ≤ 140737488355328
  inp : h.inp.length * 8 ≤ 140737488355328
  out : h.out.length * 8 ≤ 140737488355328

theorem c_laws_toHart (h : HartM) (hs : h.small) : FnOK Tryd.prog 7 [hartLV h] (.r (hartR h)) := by
  refine fn_of lv7 Tryd.func7 rfl rfl rfl rfl ?_
  refine .inl ⟨_, _, rfl, c_laws_toInt64S _ hs.regs, rfl, ?_⟩
  refine .inl ⟨_, _, rfl, c_laws_toInt64S _ hs.csr, rfl, ?_⟩
  refine .inl ⟨_, _, rfl, c_laws_toInt64S _ hs.inp, rfl, ?_⟩
  refine .inl ⟨_, _, rfl, c_laws_toInt64S _ hs.out, rfl, ?_⟩
  refine ⟨⟨?_, ?_, ?_, ?_, ?_, ?_, ?_, ?_, ?_, trivial⟩, rfl⟩
  · exact ⟨rfl, rfl, rfl, fun i hi => ⟨rfl, rfl⟩⟩
  · rfl
  · exact ⟨rfl, rfl, rfl, fun i hi => ⟨rfl, rfl⟩⟩
  · rfl
  · rfl
  · rfl
  · rfl
  · exact ⟨rfl, rfl, rfl, fun i hi => ⟨rfl, rfl⟩⟩
  · exact ⟨rfl, rfl, rfl, fun i hi => ⟨rfl, rfl⟩⟩
theorem HartM.small.lens {h : HartM} (hs : h.small) : h.regs.length ≤ 9223372036854775807 ∧ h.csr.length ≤ 9223372036854775807 ∧ h.inp.length ≤ 9223372036854775807 ∧ h.out.length ≤ 9223372036854775807 := by
  obtain ⟨h1, h2, h3, h4⟩ := hs
  omega

def hFault (h : HartM) : Int :=
  bif ((h.regs.length : Int) != 16) || (((h.csr.length : Int) != 11) || (h.regs.getD 0 0 != 0)) then 1 else
  bif !(h.regs.all isW) || (!(isW h.pc) || (!(h.csr.all isW) || (!(h.inp.all isW) || !(h.out.all isW)))) then 3 else
  bif decide ((h.inp.length : Int) > 40) || decide ((h.out.length : Int) > 40) then 2 else
  bif !(inR h.done 0 1000000000) then 3 else
  bif decide (h.csr.getD 0 0 > 3) || (decide (h.csr.getD 7 0 > 7) || (decide (h.csr.getD 10 0 > 8) || ((h.csr.getD 6 0 != 0) || (h.csr.getD 8 0 != 0)))) then 1 else 0

theorem c_spec_l8Fault (m : HartM) (hs : m.small) : FnOK Tryd.prog 17 [.dptr (hartD m)] (ri (hFault m)) := by
  obtain ⟨q1, q2, q3, q4⟩ := hs.lens
  refine fn_of lv17 Tryd.func17 rfl rfl rfl rfl ?_
  refine bsplit_intro (fun h1 => ?_) (fun h1 => ?_)
  · repeat' (first | refine bsplit_true ?_ | refine bsplit_false ?_)
    refine ⟨⟨congrArg (Value.int .i64) (?_ : (1 : Int) = _), trivial⟩, rfl⟩
    simp only [hFault, h1, Bool.true_or, cond_true]
  repeat' (first | refine bsplit_true ?_ | refine bsplit_false ?_)
  refine bsplit_intro (fun h2 => ?_) (fun h2 => ?_)
  · repeat' (first | refine bsplit_true ?_ | refine bsplit_false ?_)
    refine ⟨⟨congrArg (Value.int .i64) (?_ : (1 : Int) = _), trivial⟩, rfl⟩
    simp only [hFault, h1, h2, Bool.true_or, Bool.or_true, cond_true]
  have e1 : m.regs.length = 16 := by simp at h1; omega
  have e2 : m.csr.length = 11 := by simp at h2; omega
  repeat' (first | refine bsplit_true ?_ | refine bsplit_false ?_)
  refine ask_intro ⟨by omega, by show (0 : Int) < m.regs.length; omega, rfl⟩ ?_
  repeat' (first | refine bsplit_true ?_ | refine bsplit_false ?_)
  refine bsplit_intro (fun h3 => ?_) (fun h3 => ?_)
  · refine ⟨⟨congrArg (Value.int .i64) (?_ : (1 : Int) = _), trivial⟩, rfl⟩
    have h3 : (m.regs.getD 0 0 != 0) = true := h3
    simp only [hFault, h3, Bool.true_or, Bool.or_true, cond_true]
  have h3 : (m.regs.getD 0 0 != 0) = false := h3
  all_goals repeat' (first | refine bsplit_true ?_ | refine bsplit_false ?_ | refine .inl ⟨_, _, rfl, c_spec_l8All _ (by assumption), rfl, ?_⟩ | refine .inl ⟨_, _, rfl, c_spec_l8Word _, rfl, ?_⟩ | refine .inl ⟨_, _, rfl, c_spec_l1In _ _ _, rfl, ?_⟩ | refine bsplit_intro (fun h => ?_) (fun h => ?_) | refine ask_intro ⟨by omega, by show (_ : Int) < m.csr.length; omega, rfl⟩ ?_)
  all_goals refine ⟨⟨congrArg (Value.int .i64) ?_, trivial⟩, rfl⟩
  all_goals clear e1 e2
  all_goals simp only [Int.reduceToNat] at *
  all_goals simp only [hFault, *, Bool.true_or, Bool.or_true, Bool.false_or, Bool.or_self, cond_true, cond_false]
theorem c_impl_HartFault (m : HartM) (hs : m.small) : FnOK Tryd.prog 20 [hartLV m] (ri (hFault m)) := by
  obtain ⟨q1, q2, q3, q4⟩ := hs.lens
  refine fn_of lv20 Tryd.func20 rfl rfl rfl rfl ?_
  refine bsplit_intro (fun h1 => ?_) (fun h1 => ?_)
  · repeat' (first | refine bsplit_true ?_ | refine bsplit_false ?_)
    refine ⟨⟨congrArg (Value.int .i64) (?_ : (1 : Int) = _), trivial⟩, rfl⟩
    simp only [hFault, h1, Bool.true_or, cond_true]
  repeat' (first | refine bsplit_true ?_ | refine bsplit_false ?_)
  refine bsplit_intro (fun h2 => ?_) (fun h2 => ?_)
  · repeat' (first | refine bsplit_true ?_ | refine bsplit_false ?_)
    refine ⟨⟨congrArg (Value.int .i64) (?_ : (1 : Int) = _), trivial⟩, rfl⟩
    simp only [hFault, h1, h2, Bool.true_or, Bool.or_true, cond_true]
  have e1 : m.regs.length = 16 := by simp at h1; omega
  have e2 : m.csr.length = 11 := by simp at h2; omega
  repeat' (first | refine bsplit_true ?_ | refine bsplit_false ?_)
  refine ask_intro ⟨by omega, by show (0 : Int) < m.regs.length; omega, rfl⟩ ?_
  repeat' (first | refine bsplit_true ?_ | refine bsplit_false ?_)
  refine bsplit_intro (fun h3 => ?_) (fun h3 => ?_)
  · repeat' (first | refine bsplit_true ?_ | refine bsplit_false ?_)
    refine ⟨⟨congrArg (Value.int .i64) (?_ : (1 : Int) = _), trivial⟩, rfl⟩
    have h3 : (m.regs.getD 0 0 != 0) = true := h3
    simp only [hFault, h3, Bool.true_or, Bool.or_true, cond_true]
  have h3 : (m.regs.getD 0 0 != 0) = false := h3
  all_goals repeat' (first | refine bsplit_true ?_ | refine bsplit_false ?_ | refine .inl ⟨_, _, rfl, c_impl_areWords _ (by assumption), rfl, ?_⟩ | refine .inl ⟨_, _, rfl, c_impl_isWord _, rfl, ?_⟩ | refine .inl ⟨_, _, rfl, c_impl_within _ _ _, rfl, ?_⟩ | refine bsplit_intro (fun h => ?_) (fun h => ?_) | refine ask_intro ⟨by omega, by show (_ : Int) < m.csr.length; omega, rfl⟩ ?_)
  all_goals refine ⟨⟨congrArg (Value.int .i64) ?_, trivial⟩, rfl⟩
  all_goals clear e1 e2
  all_goals simp only [Int.reduceToNat] at *
  all_goals simp only [hFault, *, Bool.true_or, Bool.or_true, Bool.false_or, Bool.or_self, cond_true, cond_false]

def hSz (m : HartM) (q : Int) : Int :=
  let q1 := q - m.regs.length
  let q2 := q1 - m.csr.length
  let q3 := q2 - m.inp.length
  let q4 := q3 - m.out.length
  if q1 < 0 ∨ q2 < 0 ∨ q3 < 0 ∨ q4 < 0 then -1 else q4
theorem c_laws_szInt64Sn (l : List Int) (q : Int) (hq : -9223372036854775808 ≤ q - l.length) (h : q - l.length < 0) : FnOK Tryd.prog 16 [.d (ints l), di q] (ri (-1)) := by
  have := c_laws_szInt64S l q hq (by omega)
  rwa [if_pos h] at this
theorem c_laws_szInt64Sp (l : List Int) (q : Int) (hq : q - l.length < 9223372036854775808) (h : ¬ q - l.length < 0) : FnOK Tryd.prog 16 [.d (ints l), di q] (ri (q - l.length)) := by
  have := c_laws_szInt64S l q (by omega) hq
  rwa [if_neg h] at this
theorem c_laws_szHart (m : HartM) (hs : m.small) (q : Int) (hq : 0 ≤ q) (hq2 : q ≤ 1048576) : FnOK Tryd.prog 5 [hartLV m, di q] (ri (hSz m q)) := by
  obtain ⟨l1, l2, l3, l4⟩ := hs.lens
  refine fn_of lv5 Tryd.func5 rfl rfl rfl rfl ?_
  unfold hSz
  by_cases h1 : q - m.regs.length < 0
  · refine .inl ⟨_, _, rfl, c_laws_szInt64Sn _ q (by omega) h1, rfl, ?_⟩
    repeat' (first | refine bsplit_true ?_ | refine bsplit_false ?_)
    exact ⟨⟨congrArg (Value.int .i64) (if_pos (.inl h1)).symm, trivial⟩, rfl⟩
  refine .inl ⟨_, _, rfl, c_laws_szInt64Sp _ q (by omega) h1, rfl, bsplit_of_false (decide_eq_false h1) ?_⟩
  by_cases h2 : q - m.regs.length - m.csr.length < 0
  · refine .inl ⟨_, _, rfl, c_laws_szInt64Sn _ _ (by omega) h2, rfl, ?_⟩
    repeat' (first | refine bsplit_true ?_ | refine bsplit_false ?_)
    exact ⟨⟨congrArg (Value.int .i64) (if_pos (.inr (.inl h2))).symm, trivial⟩, rfl⟩
  refine .inl ⟨_, _, rfl, c_laws_szInt64Sp _ _ (by omega) h2, rfl, bsplit_of_false (decide_eq_false h2) ?_⟩
  by_cases h3 : q - m.regs.length - m.csr.length - m.inp.length < 0
  · refine .inl ⟨_, _, rfl, c_laws_szInt64Sn _ _ (by omega) h3, rfl, ?_⟩
    repeat' (first | refine bsplit_true ?_ | refine bsplit_false ?_)
    exact ⟨⟨congrArg (Value.int .i64) (if_pos (.inr (.inr (.inl h3)))).symm, trivial⟩, rfl⟩
  refine .inl ⟨_, _, rfl, c_laws_szInt64Sp _ _ (by omega) h3, rfl, bsplit_of_false (decide_eq_false h3) ?_⟩
  by_cases h4 : q - m.regs.length - m.csr.length - m.inp.length - m.out.length < 0
  · refine .inl ⟨_, _, rfl, c_laws_szInt64Sn _ _ (by omega) h4, rfl, ?_⟩
    repeat' (first | refine bsplit_true ?_ | refine bsplit_false ?_)
    exact ⟨⟨congrArg (Value.int .i64) (if_pos (.inr (.inr (.inr h4)))).symm, trivial⟩, rfl⟩
  refine .inl ⟨_, _, rfl, c_laws_szInt64Sp _ _ (by omega) h4, rfl, bsplit_of_false (decide_eq_false h4) ?_⟩
  exact ⟨⟨congrArg (Value.int .i64) (if_neg (by rintro (h | h | h | h) <;> contradiction)).symm, trivial⟩, rfl⟩

theorem c_laws_eqHart (m n : HartM) (hs : m.small) : FnOK Tryd.prog 10 [hartLV m, hartLV n] (rb (decide (m = n))) := by
  obtain ⟨l1, l2, l3, l4⟩ := hs.lens
  refine fn_of lv10 Tryd.func10 rfl rfl rfl rfl ?_
  repeat' (first | refine bsplit_true ?_ | refine bsplit_false ?_ | refine .inl ⟨_, _, rfl, c_laws_eqInt64S _ _ (by assumption), rfl, ?_⟩ | refine bsplit_intro (fun h => ?_) (fun h => ?_))
  all_goals refine ⟨⟨congrArg Value.bool ?_, trivial⟩, rfl⟩
  all_goals (obtain ⟨a1, a2, a3, a4, a5, a6, a7, a8, a9⟩ := m; obtain ⟨b1, b2, b3, b4, b5, b6, b7, b8, b9⟩ := n; simp_all)

end Go.Proofs.YtfcekiehcchebaaDoor.L

/- What the functions that ask a machine compute: contracts. -/
set_option linter.unusedVariables false
set_option linter.unusedSimpArgs false
set_option maxRecDepth 100000
namespace Go.Proofs.YtfcekiehcchebaaDoor.L
open Go.RowKit
abbrev irR (p : Int × Int) : RV1 := .agg [.v (.int .i64 p.1), .v (.int .i64 p.2)]
abbrev irLV (p : Int × Int) : LV := .agg [di p.1, di p.2]

theorem hFault_zero {m : HartM} (h : hFault m = 0) : m.regs.length = 16 ∧ m.csr.length = 11 ∧ m.inp.length ≤ 40 ∧ m.out.length ≤ 40 := by
  unfold hFault at h
  cases h1 : (((m.regs.length : Int) != 16) || (((m.csr.length : Int) != 11) || (m.regs.getD 0 0 != 0))) with
  | true => rw [h1] at h; simp at h
  | false =>
    rw [h1, cond_false] at h
    cases h0 : !m.regs.all isW || (!isW m.pc || (!m.csr.all isW || (!m.inp.all isW || !m.out.all isW))) with
    | true => rw [h0] at h; simp at h
    | false =>
    rw [h0, cond_false] at h
    cases h2 : decide ((m.inp.length : Int) > 40) || decide ((m.out.length : Int) > 40) with
    | true => rw [h2] at h; simp at h
    | false =>
      simp at h1 h2
      omega
theorem fault_ne {m : HartM} (h : (hFault m != 0) = false) : hFault m = 0 := by simpa using h

def pend (m : HartM) : Int := (if m.csr.getD 9 0 ≠ 0 ∧ m.done ≥ m.csr.getD 9 0 then 1 else 0) + (if m.rung = true then 2 else 0) + (if 0 < m.inp.length then 4 else 0)
def pendingOf (m : HartM) : Int × Int := if hFault m = 0 then (0, pend m) else (hFault m, 0)
def csrOf (m : HartM) (k : Int) : Int := if k = 6 then pend m else if k = 8 then m.done else m.csr.getD k.toNat 0
def getCsr (m : HartM) (k : Int) : Int × Int := if hFault m = 0 then (if inR k 0 10 = true then (0, csrOf m k) else (3, 0)) else (hFault m, 0)
theorem inR_iff {n a b : Int} : inR n a b = true ↔ a ≤ n ∧ n ≤ b := by simp [inR]
end Go.Proofs.YtfcekiehcchebaaDoor.L

/- What the functions compute that mark what a result owns, and look whether it is held: contracts. -/
set_option linter.unusedVariables false
set_option linter.unusedSimpArgs false
set_option maxRecDepth 100000
namespace Go.Proofs.YtfcekiehcchebaaDoor.L
open Go.RowKit
/-- the numbers from k on -/
def markL (k : Int) (n : Nat) : List Int := (List.range n).map fun (i : Nat) => k + (i : Int)
theorem markL_len (k : Int) (n : Nat) : (markL k n).length = n := by simp [markL]
theorem markL_get (k : Int) (n i : Nat) (h : i < n) : (markL k n).getD i 0 = k + i := by simp [markL, List.getD, h]
abbrev rowE (l : List Int) : Ent := .row 2 1 l.length (intsF l)

abbrev hartK (m : HartM) (a b c d : Nat) : List LV := [.row a, di m.pc, .row b, dv (.bool m.halted), dv (.bool m.waiting), dv (.bool m.rung), di m.done, .row c, .row d]
abbrev rowM (l : List Int) (k : Int) : Ent := .row 2 1 l.length (intsF (markL k l.length))
abbrev datM (l : List Int) (k : Int) : LV := .d (.l l.length (intsF (markL k l.length)))
structure HartM.few (m : HartM) : Prop where
  regs : m.regs.length ≤ 1048576
  csr : m.csr.length ≤ 1048576
  inp : m.inp.length ≤ 1048576
  out : m.out.length ≤ 1048576
def hLen (m : HartM) : Int := m.regs.length + m.csr.length + m.inp.length + m.out.length
abbrev hK1 (m : HartM) (k : Int) : Int := k + m.regs.length
abbrev hK2 (m : HartM) (k : Int) : Int := hK1 m k + m.csr.length
abbrev hK3 (m : HartM) (k : Int) : Int := hK2 m k + m.inp.length
abbrev hK4 (m : HartM) (k : Int) : Int := hK3 m k + m.out.length
abbrev hMarks (m : HartM) (k : Int) : List (Nat × Ent) := [(0, rowM m.regs k), (1, rowM m.csr (hK1 m k)), (2, rowM m.inp (hK2 m k)), (3, rowM m.out (hK3 m k))]
abbrev hRows (m : HartM) : List (Nat × Ent) := [(0, rowE m.regs), (1, rowE m.csr), (2, rowE m.inp), (3, rowE m.out)]

theorem hK_le (m : HartM) (k : Int) (hf : m.few) (hk : 0 ≤ k) (hk2 : k ≤ 1048576) : (0 ≤ hK1 m k ∧ hK1 m k ≤ 1099511627776) ∧ (0 ≤ hK2 m k ∧ hK2 m k ≤ 1099511627776) ∧ (0 ≤ hK3 m k ∧ hK3 m k ≤ 1099511627776) ∧ (0 ≤ hK4 m k ∧ hK4 m k ≤ 1099511627776) := by
  obtain ⟨b1, b2, b3, b4⟩ := hf
  unfold hK4 hK3 hK2 hK1
  omega
abbrev hrLV (p : Int × HartM) : LV := .agg [di p.1, .d (ints p.2.regs), di p.2.pc, .d (ints p.2.csr), dv (.bool p.2.halted), dv (.bool p.2.waiting), dv (.bool p.2.rung), di p.2.done, .d (ints p.2.inp), .d (ints p.2.out)]
abbrev hrR (p : Int × HartM) : RV1 := .agg [.v (.int .i64 p.1), oInts p.2.regs, .v (.int .i64 p.2.pc), oInts p.2.csr, .v (.bool p.2.halted), .v (.bool p.2.waiting), .v (.bool p.2.rung), .v (.int .i64 p.2.done), oInts p.2.inp, oInts p.2.out]

end Go.Proofs.YtfcekiehcchebaaDoor.L

/- What the functions compute that make a new machine: contracts. -/
set_option linter.unusedVariables false
set_option linter.unusedSimpArgs false
set_option maxRecDepth 100000
namespace Go.Proofs.YtfcekiehcchebaaDoor.L
open Go.RowKit
def hartZ : HartM := ⟨[], 0, [], false, false, false, 0, [], []⟩
def newHart (l : List Int) : Int × HartM :=
  bif decide ((l.length : Int) > 40) then (2, hartZ) else bif !(l.all isW) then (3, hartZ) else (0, { hartZ with regs := List.replicate 16 0, csr := List.replicate 11 0, inp := l })
theorem rep_get (n i : Nat) : intsF (List.replicate n 0) i = [.v (.int .i64 0)] := by
  show [D.v (.int .i64 ((List.replicate n (0 : Int)).getD i 0))] = _
  have : (List.replicate n (0 : Int)).getD i 0 = 0 := by
    simp only [List.getD, List.getElem?_replicate]
    split <;> rfl
  rw [this]
end Go.Proofs.YtfcekiehcchebaaDoor.L

/- What the functions compute that copy and ring a machine: contracts. -/
set_option linter.unusedVariables false
set_option linter.unusedSimpArgs false
set_option maxRecDepth 100000
namespace Go.Proofs.YtfcekiehcchebaaDoor.L
open Go.RowKit
def ringHart (m : HartM) : Int × HartM := if hFault m = 0 then (0, { m with rung := true }) else (hFault m, hartZ)
end Go.Proofs.YtfcekiehcchebaaDoor.L

/- What the functions that look at pages and memories compute: contracts. -/
set_option linter.unusedVariables false
set_option linter.unusedSimpArgs false
set_option maxRecDepth 100000
namespace Go.Proofs.YtfcekiehcchebaaDoor.L
open Go.RowKit
structure PageM where
  to : Int
  kinds : Int
  deriving DecidableEq
abbrev pageD (p : PageM) : List D := [.v (.int .i64 p.to), .v (.int .i64 p.kinds)]
abbrev pagesF (l : List PageM) (i : Nat) : List D := pageD (l.getD i ⟨0, 0⟩)
abbrev pages (l : List PageM) : D := .l l.length (pagesF l)
def firstNZ : List Int → Int
  | [] => 0
  | x :: xs => if x = 0 then firstNZ xs else x
def pageBad (top : Int) (p : PageM) : Int := bif !inR p.to (-1) (top - 1) || !inR p.kinds 0 7 then 3 else bif (p.to == -1) && (p.kinds != 0) then 1 else 0
def pagesFault (l : List PageM) (top : Int) : Int := bif !inR top 1 24 then 3 else bif (l.length : Int) != 8 then 1 else firstNZ (l.map (pageBad top))
theorem map_drop {α : Type} (d : α) (f : α → Int) (l : List α) (i : Nat) (h : i < l.length) : (l.drop i).map f = f (l.getD i d) :: (l.drop (i + 1)).map f := by
  rw [List.drop_eq_getElem_cons h, List.map_cons]
  simp [List.getD, List.getElem?_eq_getElem h]
theorem c_impl_firstOf (l : List Int) (hl : l.length ≤ 1048576) : FnOK Tryd.prog 44 [.d (ints l)] (ri (firstNZ l)) := by
  refine fn_of lv44 Tryd.func44 rfl rfl (by kernel_rfl) rfl ?_
  refine ⟨{ i : Nat // i ≤ l.length ∧ firstNZ (l.drop i) = firstNZ l }, fun i => ⟨frL [(5, .d (ints l)), (6, di l.length), (7, di i.1)], hpL [], 0, 0⟩, fun i => l.length - i.1, ⟨0, by simp⟩, le_of [] rfl rfl rfl rfl trivial (tellFr_d rfl (DLe.refl _) (tellFr_v rfl rfl (tellFr_v rfl rfl trivial))), ?_⟩
  rintro ⟨i, hi, hall⟩
  refine bsplit_intro (fun h => ?_) (fun h => ?_)
  · have h : i < l.length := by simp at h; exact h
    have hd : firstNZ (l.drop i) = if l.getD i 0 = 0 then firstNZ (l.drop (i + 1)) else l.getD i 0 := by rw [drop_cons l i h]; rfl
    refine ask_intro ⟨by omega, by simp; omega, rfl⟩ ?_
    refine bsplit_intro (fun h2 => ?_) (fun h2 => ?_)
    · have h2 : ¬ l.getD i 0 = 0 := by simpa using h2
      refine ⟨⟨congrArg (Value.int .i64) ?_, trivial⟩, rfl⟩
      show l.getD i 0 = _
      rw [← hall, hd, if_neg h2]
    · have h2 : l.getD i 0 = 0 := by simpa using h2
      refine ⟨⟨i + 1, by omega, by rw [← hall, hd, if_pos h2]⟩, le_of [] rfl rfl rfl rfl trivial (tellFr_d rfl (DLe.refl _) (tellFr_v rfl rfl (tellFr_v rfl (congrArg (Value.int .i64) (?_ : IntKind.i64.wrap ((i : Int) + 1) = ((i + 1 : Nat) : Int))) trivial))), by show l.length - (i + 1) < l.length - i; omega⟩
      exact wrap_i64 (i + 1) (by omega) (by omega)
  · refine ⟨⟨congrArg (Value.int .i64) ?_, trivial⟩, rfl⟩
    simp at h
    rw [← hall, List.drop_eq_nil_of_le h]; rfl
theorem c_spec_PagesFault (l : List PageM) (top : Int) (hl : l.length ≤ 1048576) : FnOK Tryd.prog 39 [.d (pages l), di top] (ri (pagesFault l top)) := by
  generalize hr : pagesFault l top = r
  unfold pagesFault at hr
  refine fn_of lv39 Tryd.func39 rfl rfl (by kernel_rfl) rfl ?_
  refine .inl ⟨_, _, rfl, c_spec_l1In top 1 24, rfl, ?_⟩
  refine bsplit_intro (fun h => ?_) (fun h => ?_)
  · rw [h] at hr
    exact ⟨⟨congrArg (Value.int .i64) hr, trivial⟩, rfl⟩
  have ht := inR_iff.1 (show inR top 1 24 = true by simpa using h)
  rw [h] at hr
  have hw : IntKind.i64.wrap (top - 1) = top - 1 := wrap_i64 _ (by omega) (by omega)
  refine bsplit_intro (fun h1 => ?_) (fun h1 => ?_)
  · rw [h1] at hr
    exact ⟨⟨congrArg (Value.int .i64) hr, trivial⟩, rfl⟩
  rw [h1] at hr
  simp only [cond_false] at hr
  refine ⟨{ i : Nat // i ≤ l.length ∧ firstNZ ((l.drop i).map (pageBad top)) = r }, fun i => ⟨frL [(0, .d (pages l)), (1, di top), (5, di i.1)], hpL [], 0, 0⟩, fun i => l.length - i.1, ⟨0, by omega, by simpa using hr⟩, le_of [] rfl rfl rfl rfl trivial (tellFr_d rfl (DLe.refl _) (tellFr_v rfl rfl (tellFr_v rfl rfl trivial))), ?_⟩
  rintro ⟨i, hi, hall⟩
  refine bsplit_intro (fun h => ?_) (fun h => ?_)
  · have h : i < l.length := by simp at h; exact h
    rw [map_drop ⟨0, 0⟩ _ _ _ h] at hall
    have hwi : IntKind.i64.wrap ((i : Int) + 1) = ((i + 1 : Nat) : Int) := wrap_i64 (i + 1) (by omega) (by omega)
    obtain ⟨b, hb⟩ : ∃ b, b = pageBad top (l.getD i ⟨0, 0⟩) := ⟨_, rfl⟩
    rw [← hb] at hall
    unfold pageBad at hb
    refine ask_intro ⟨by omega, by simp; omega, rfl⟩ ?_
    refine .inl ⟨_, _, rfl, c_spec_l1In _ _ _, rfl, ?_⟩
    repeat' (first | refine bsplit_true ?_ | refine bsplit_false ?_)
    have e1 : inR (l.getD i ⟨0, 0⟩).to (-1) (IntKind.i64.wrap (top - 1)) = inR (l.getD i ⟨0, 0⟩).to (-1) (top - 1) := by rw [hw]
    have stop : ∀ v : Int, b = v → v ≠ 0 → v = r := fun v e n => by rw [← hall, e]; simp [firstNZ, n]
    have go : b = 0 → firstNZ ((l.drop (i + 1)).map (pageBad top)) = r := fun e => by rw [← hall, e]; simp [firstNZ]
    refine bsplit_intro (fun h2 => ?_) (fun h2 => ?_)
    · have h2 : (!inR (l.getD i ⟨0, 0⟩).to (-1) (top - 1)) = true := by rw [← e1]; exact h2
      repeat' (first | refine bsplit_true ?_ | refine bsplit_false ?_)
      exact ⟨⟨congrArg (Value.int .i64) (stop 3 (by rw [hb, h2]; rfl) (by decide)), trivial⟩, rfl⟩
    have h2 : (!inR (l.getD i ⟨0, 0⟩).to (-1) (top - 1)) = false := by rw [← e1]; exact h2
    repeat' (first | refine bsplit_true ?_ | refine bsplit_false ?_)
    refine ask_intro ⟨by omega, by simp; omega, rfl⟩ ?_
    repeat' (first | refine bsplit_true ?_ | refine bsplit_false ?_)
    refine .inl ⟨_, _, rfl, c_spec_l1In _ _ _, rfl, ?_⟩
    repeat' (first | refine bsplit_true ?_ | refine bsplit_false ?_)
    refine bsplit_intro (fun h3 => ?_) (fun h3 => ?_)
    · have h3 : (!inR (l.getD i ⟨0, 0⟩).kinds 0 7) = true := h3
      exact ⟨⟨congrArg (Value.int .i64) (stop 3 (by rw [hb, h2, h3]; rfl) (by decide)), trivial⟩, rfl⟩
    have h3 : (!inR (l.getD i ⟨0, 0⟩).kinds 0 7) = false := h3
    have r2 := inR_iff.1 (show inR (l.getD i ⟨0, 0⟩).to (-1) (top - 1) = true by simpa using h2)
    refine ask_intro ⟨by omega, by simp; omega, rfl⟩ ?_
    refine bsplit_intro (fun h4 => ?_) (fun h4 => ?_)
    · have h4 : decide ((l.getD i ⟨0, 0⟩).to < 0) = true := h4
      have q : ((l.getD i ⟨0, 0⟩).to == -1) = true := by
        have : (l.getD i ⟨0, 0⟩).to < 0 := of_decide_eq_true h4
        exact beq_iff_eq.2 (by omega)
      repeat' (first | refine bsplit_true ?_ | refine bsplit_false ?_)
      refine ask_intro ⟨by omega, by simp; omega, rfl⟩ ?_
      repeat' (first | refine bsplit_true ?_ | refine bsplit_false ?_)
      refine bsplit_intro (fun h5 => ?_) (fun h5 => ?_)
      · have h5 : ((l.getD i ⟨0, 0⟩).kinds != 0) = true := h5
        exact ⟨⟨congrArg (Value.int .i64) (stop 1 (by rw [hb, h2, h3, q, h5]; rfl) (by decide)), trivial⟩, rfl⟩
      · have h5 : ((l.getD i ⟨0, 0⟩).kinds != 0) = false := h5
        exact ⟨⟨i + 1, by omega, go (by rw [hb, h2, h3, q, h5]; rfl)⟩, le_of [] rfl rfl rfl rfl trivial (tellFr_d rfl (DLe.refl _) (tellFr_v rfl rfl (tellFr_v rfl (congrArg (Value.int .i64) hwi) trivial))), by show l.length - (i + 1) < l.length - i; omega⟩
    · have h4 : decide ((l.getD i ⟨0, 0⟩).to < 0) = false := h4
      have q : ((l.getD i ⟨0, 0⟩).to == -1) = false := by
        have : ¬ (l.getD i ⟨0, 0⟩).to < 0 := of_decide_eq_false h4
        exact beq_eq_false_iff_ne.2 (by omega)
      repeat' (first | refine bsplit_true ?_ | refine bsplit_false ?_)
      exact ⟨⟨i + 1, by omega, go (by rw [hb, h2, h3, q]; rfl)⟩, le_of [] rfl rfl rfl rfl trivial (tellFr_d rfl (DLe.refl _) (tellFr_v rfl rfl (tellFr_v rfl (congrArg (Value.int .i64) hwi) trivial))), by show l.length - (i + 1) < l.length - i; omega⟩
  · refine ⟨⟨congrArg (Value.int .i64) ?_, trivial⟩, rfl⟩
    simp at h
    rw [← hall, List.drop_eq_nil_of_le h]; rfl
theorem c_impl_PagesFault (l : List PageM) (top : Int) (hl : l.length ≤ 1048576) : FnOK Tryd.prog 45 [.d (pages l), di top] (ri (pagesFault l top)) := by
  generalize hr : pagesFault l top = r
  unfold pagesFault at hr
  refine fn_of lv45 Tryd.func45 rfl rfl (by kernel_rfl) rfl ?_
  refine .inl ⟨_, _, rfl, c_impl_within top 1 24, rfl, ?_⟩
  refine bsplit_intro (fun h => ?_) (fun h => ?_)
  · rw [h] at hr
    exact ⟨⟨congrArg (Value.int .i64) hr, trivial⟩, rfl⟩
  have ht := inR_iff.1 (show inR top 1 24 = true by simpa using h)
  rw [h] at hr
  have hw : IntKind.i64.wrap (top - 1) = top - 1 := wrap_i64 _ (by omega) (by omega)
  refine bsplit_intro (fun h1 => ?_) (fun h1 => ?_)
  · rw [h1] at hr
    exact ⟨⟨congrArg (Value.int .i64) hr, trivial⟩, rfl⟩
  rw [h1] at hr
  simp only [cond_false] at hr
  refine ⟨{ i : Nat // i ≤ l.length ∧ firstNZ ((l.drop i).map (pageBad top)) = r }, fun i => ⟨frL [(1, di top), (15, .d (pages l)), (16, di l.length), (17, di i.1)], hpL [], 0, 0⟩, fun i => l.length - i.1, ⟨0, by omega, by simpa using hr⟩, le_of [] rfl rfl rfl rfl trivial (tellFr_v rfl rfl (tellFr_d rfl (DLe.refl _) (tellFr_v rfl rfl (tellFr_v rfl rfl trivial)))), ?_⟩
  rintro ⟨i, hi, hall⟩
  refine bsplit_intro (fun h => ?_) (fun h => ?_)
  · have h : i < l.length := by simp at h; exact h
    rw [map_drop ⟨0, 0⟩ _ _ _ h] at hall
    have hwi : IntKind.i64.wrap ((i : Int) + 1) = ((i + 1 : Nat) : Int) := wrap_i64 (i + 1) (by omega) (by omega)
    obtain ⟨b, hb⟩ : ∃ b, b = pageBad top (l.getD i ⟨0, 0⟩) := ⟨_, rfl⟩
    rw [← hb] at hall
    unfold pageBad at hb
    refine ask_intro ⟨by omega, by simp; omega, rfl⟩ ?_
    refine .inl ⟨_, _, rfl, c_impl_within _ _ _, rfl, ?_⟩
    repeat' (first | refine bsplit_true ?_ | refine bsplit_false ?_)
    have e1 : inR (l.getD i ⟨0, 0⟩).to (-1) (IntKind.i64.wrap (top - 1)) = inR (l.getD i ⟨0, 0⟩).to (-1) (top - 1) := by rw [hw]
    have stop : ∀ v : Int, b = v → v ≠ 0 → v = r := fun v e n => by rw [← hall, e]; simp [firstNZ, n]
    have go : b = 0 → firstNZ ((l.drop (i + 1)).map (pageBad top)) = r := fun e => by rw [← hall, e]; simp [firstNZ]
    refine bsplit_intro (fun h2 => ?_) (fun h2 => ?_)
    · have h2 : (!inR (l.getD i ⟨0, 0⟩).to (-1) (top - 1)) = true := by rw [← e1]; exact h2
      repeat' (first | refine bsplit_true ?_ | refine bsplit_false ?_)
      exact ⟨⟨congrArg (Value.int .i64) (stop 3 (by rw [hb, h2]; rfl) (by decide)), trivial⟩, rfl⟩
    have h2 : (!inR (l.getD i ⟨0, 0⟩).to (-1) (top - 1)) = false := by rw [← e1]; exact h2
    repeat' (first | refine bsplit_true ?_ | refine bsplit_false ?_)
    refine .inl ⟨_, _, rfl, c_impl_within _ _ _, rfl, ?_⟩
    repeat' (first | refine bsplit_true ?_ | refine bsplit_false ?_)
    refine bsplit_intro (fun h3 => ?_) (fun h3 => ?_)
    · have h3 : (!inR (l.getD i ⟨0, 0⟩).kinds 0 7) = true := h3
      exact ⟨⟨congrArg (Value.int .i64) (stop 3 (by rw [hb, h2, h3]; rfl) (by decide)), trivial⟩, rfl⟩
    have h3 : (!inR (l.getD i ⟨0, 0⟩).kinds 0 7) = false := h3
    refine bsplit_intro (fun h4 => ?_) (fun h4 => ?_)
    · have h4 : ((l.getD i ⟨0, 0⟩).to == -1) = true := h4
      repeat' (first | refine bsplit_true ?_ | refine bsplit_false ?_)
      refine bsplit_intro (fun h5 => ?_) (fun h5 => ?_)
      · have h5 : ((l.getD i ⟨0, 0⟩).kinds != 0) = true := h5
        exact ⟨⟨congrArg (Value.int .i64) (stop 1 (by rw [hb, h2, h3, h4, h5]; rfl) (by decide)), trivial⟩, rfl⟩
      · have h5 : ((l.getD i ⟨0, 0⟩).kinds != 0) = false := h5
        exact ⟨⟨i + 1, by omega, go (by rw [hb, h2, h3, h4, h5]; rfl)⟩, le_of [] rfl rfl rfl rfl trivial (tellFr_v rfl rfl (tellFr_d rfl (DLe.refl _) (tellFr_v rfl rfl (tellFr_v rfl (congrArg (Value.int .i64) hwi) trivial)))), by show l.length - (i + 1) < l.length - i; omega⟩
    · have h4 : ((l.getD i ⟨0, 0⟩).to == -1) = false := h4
      repeat' (first | refine bsplit_true ?_ | refine bsplit_false ?_)
      exact ⟨⟨i + 1, by omega, go (by rw [hb, h2, h3, h4]; rfl)⟩, le_of [] rfl rfl rfl rfl trivial (tellFr_v rfl rfl (tellFr_d rfl (DLe.refl _) (tellFr_v rfl rfl (tellFr_v rfl (congrArg (Value.int .i64) hwi) trivial)))), by show l.length - (i + 1) < l.length - i; omega⟩
  · refine ⟨⟨congrArg (Value.int .i64) ?_, trivial⟩, rfl⟩
    simp at h
    rw [← hall, List.drop_eq_nil_of_le h]; rfl
def memFault (m : List Int) : Int := bif ((m.length : Int) == 0) || (decide ((m.length : Int) > 192) || (Int.tmod m.length 8 != 0)) then 1 else bif !m.all isW then 3 else 0
theorem c_impl_MemoryFault (l : List Int) (hl : l.length ≤ 1048576) : FnOK Tryd.prog 46 [.d (ints l)] (ri (memFault l)) := by
  generalize hr : memFault l = r
  unfold memFault at hr
  refine fn_of lv46 Tryd.func46 rfl rfl (by kernel_rfl) rfl ?_
  refine bsplit_intro (fun h => ?_) (fun h => ?_)
  · repeat' (first | refine bsplit_true ?_ | refine bsplit_false ?_)
    rw [h] at hr
    exact ⟨⟨congrArg (Value.int .i64) hr, trivial⟩, rfl⟩
  repeat' (first | refine bsplit_true ?_ | refine bsplit_false ?_)
  refine bsplit_intro (fun h1 => ?_) (fun h1 => ?_)
  · repeat' (first | refine bsplit_true ?_ | refine bsplit_false ?_)
    rw [h, h1] at hr
    exact ⟨⟨congrArg (Value.int .i64) hr, trivial⟩, rfl⟩
  repeat' (first | refine bsplit_true ?_ | refine bsplit_false ?_)
  refine ask_intro (by decide) ?_
  repeat' (first | refine bsplit_true ?_ | refine bsplit_false ?_)
  refine bsplit_intro (fun h2 => ?_) (fun h2 => ?_)
  · repeat' (first | refine bsplit_true ?_ | refine bsplit_false ?_)
    rw [h, h1, h2] at hr
    exact ⟨⟨congrArg (Value.int .i64) hr, trivial⟩, rfl⟩
  repeat' (first | refine bsplit_true ?_ | refine bsplit_false ?_)
  rw [h, h1, h2] at hr
  refine .inl ⟨_, _, rfl, c_impl_areWords l (by omega), rfl, ?_⟩
  refine bsplit_intro (fun h3 => ?_) (fun h3 => ?_)
  · rw [h3] at hr
    exact ⟨⟨congrArg (Value.int .i64) hr, trivial⟩, rfl⟩
  · rw [h3] at hr
    exact ⟨⟨congrArg (Value.int .i64) hr, trivial⟩, rfl⟩
theorem c_spec_MemoryFault (l : List Int) (hl : l.length ≤ 1048576) : FnOK Tryd.prog 40 [.d (ints l)] (ri (memFault l)) := by
  generalize hr : memFault l = r
  unfold memFault at hr
  have bad : (((l.length : Int) == 0) || (decide ((l.length : Int) > 192) || (Int.tmod l.length 8 != 0))) = true → 1 = r := fun e => by rw [← hr, e]; rfl
  have tm : Int.tmod (l.length : Int) 8 = ((l.length % 8 : Nat) : Int) := rfl
  refine fn_of lv40 Tryd.func40 rfl rfl (by kernel_rfl) rfl ?_
  refine ask_intro (by decide) ?_
  refine bsplit_intro (fun h => ?_) (fun h => ?_)
  · repeat' (first | refine bsplit_true ?_ | refine bsplit_false ?_)
    exact ⟨⟨congrArg (Value.int .i64) (bad (by rw [h]; simp)), trivial⟩, rfl⟩
  repeat' (first | refine bsplit_true ?_ | refine bsplit_false ?_)
  have h' : l.length % 8 = 0 := by rw [tm] at h; simp at h; omega
  refine bsplit_intro (fun h1 => ?_) (fun h1 => ?_)
  · repeat' (first | refine bsplit_true ?_ | refine bsplit_false ?_)
    have h0 : l.length = 0 := by simp at h1; omega
    exact ⟨⟨congrArg (Value.int .i64) (bad (by simp [h0])), trivial⟩, rfl⟩
  repeat' (first | refine bsplit_true ?_ | refine bsplit_false ?_)
  refine bsplit_intro (fun h2 => ?_) (fun h2 => ?_)
  · exact ⟨⟨congrArg (Value.int .i64) (bad (by rw [h2]; simp)), trivial⟩, rfl⟩
  have hz : ((l.length : Int) == 0) = false := beq_eq_false_iff_ne.2 (by have : ¬ (l.length : Int) < 8 := of_decide_eq_false h1; omega)
  rw [hz, h2, h] at hr
  have hr : (bif !l.all isW then (3 : Int) else 0) = r := hr
  refine ⟨{ i : Nat // i ≤ l.length ∧ (l.drop i).all isW = l.all isW }, fun i => ⟨frL [(0, .d (ints l)), (3, di i.1)], hpL [], 0, 0⟩, fun i => l.length - i.1, ⟨0, by simp⟩, le_of [] rfl rfl rfl rfl trivial (tellFr_d rfl (DLe.refl _) (tellFr_v rfl rfl trivial)), ?_⟩
  rintro ⟨i, hi, hall⟩
  refine bsplit_intro (fun h3 => ?_) (fun h3 => ?_)
  · have h3 : i < l.length := by simp at h3; exact h3
    have hwi : IntKind.i64.wrap ((i : Int) + 1) = ((i + 1 : Nat) : Int) := wrap_i64 (i + 1) (by omega) (by omega)
    rw [drop_all l isW i h3] at hall
    refine ask_intro ⟨by omega, by simp; omega, rfl⟩ ?_
    refine .inl ⟨_, _, rfl, c_spec_l1In _ _ _, rfl, ?_⟩
    refine bsplit_intro (fun h4 => ?_) (fun h4 => ?_)
    · have h4 : isW (l.getD i 0) = false := by simpa [isW] using h4
      rw [h4] at hall
      rw [← hall] at hr
      exact ⟨⟨congrArg (Value.int .i64) hr, trivial⟩, rfl⟩
    · have h4 : isW (l.getD i 0) = true := by simpa [isW] using h4
      rw [h4, Bool.true_and] at hall
      exact ⟨⟨i + 1, by omega, hall⟩, le_of [] rfl rfl rfl rfl trivial (tellFr_d rfl (DLe.refl _) (tellFr_v rfl (congrArg (Value.int .i64) hwi) trivial)), by show l.length - (i + 1) < l.length - i; omega⟩
  · simp at h3
    rw [List.drop_eq_nil_of_le h3] at hall
    rw [← hall] at hr
    exact ⟨⟨congrArg (Value.int .i64) hr, trivial⟩, rfl⟩
end Go.Proofs.YtfcekiehcchebaaDoor.L

/- How a machine, a word, a row of words that a law is handed is read: as data, of a size that a process can hold. -/
set_option linter.unusedVariables false
set_option linter.unusedSimpArgs false
set_option maxRecDepth 100000
namespace Go.Proofs.YtfcekiehcchebaaDoor.L
open Go.RowKit Go.ChangeShapes Go.WideShapes Go.ChangeAt

theorem own : ownKnob Tryd.prog.godebug = none := by kernel_rfl
theorem laidOut : laidOutB Tryd.prog = true := by kernel_rfl
theorem reach_eq : reachBytes = 140737488351232 := by decide
abbrev ok64 (n : Int) : Prop := (Lit.int .i64 n).wf = true
theorem ok64_le {n : Int} (h : ok64 n) : -9223372036854775808 ≤ n ∧ n ≤ 9223372036854775807 := by
  have h' : IntKind.i64.min ≤ n ∧ n ≤ 9223372036854775807 := by simpa [ok64, Lit.wf] using h
  have e : IntKind.i64.min = -9223372036854775808 := by decide
  rw [e] at h'
  exact h'
abbrev okInts (l : List Int) : Prop := l.length * 8 ≤ reachBytes ∧ ∀ x ∈ l, ok64 x

theorem reads_int64 : ReadsT Tryd.prog 2 1 Int (fun n => [.v (.int .i64 n)]) ok64 := ReadsT.int Tryd.underlying2 (by kernel_rfl)
theorem reads_bool : ReadsT Tryd.prog 4 1 Bool (fun n => [.v (.bool n)]) (fun _ => True) := ReadsT.bool Tryd.underlying4 (by kernel_rfl)
theorem reads_ints : ReadsT Tryd.prog 22 1 (List Int) (fun l => [ints l]) okInts := ReadsT.slice reads_int64 Tryd.underlying22 (by kernel_rfl) (by decide) 0 (by kernel_rfl)
structure HartM.ok (h : HartM) : Prop where
  small : h.small
  pc : ok64 h.pc
  done : ok64 h.done
  regs : okInts h.regs
  csr : okInts h.csr
  inp : okInts h.inp
  out : okInts h.out
theorem reads_Hart : ReadsT Tryd.prog 24 9 HartM hartD HartM.ok := by
  refine (ReadsT.struct (ok := _) Tryd.underlying24 (by kernel_rfl) (ReadsL.cons reads_ints (.cons reads_int64 (.cons reads_ints (.cons reads_bool (.cons reads_bool (.cons reads_bool (.cons reads_int64 (.cons reads_ints (.cons reads_ints (.nil 9))))))))))).map (fun m => ⟨m.1, m.2.1, m.2.2.1, m.2.2.2.1, m.2.2.2.2.1, m.2.2.2.2.2.1, m.2.2.2.2.2.2.1, m.2.2.2.2.2.2.2.1, m.2.2.2.2.2.2.2.2.1⟩) ?_
  rintro ⟨m1, m2, m3, m4, m5, m6, m7, m8, m9, _⟩ ⟨h1, h2, h3, h4, h5, h6, h7, h8, h9, _⟩
  have e := reach_eq
  have a1 : m1.length * 8 ≤ reachBytes := h1.1
  have a2 : m3.length * 8 ≤ reachBytes := h3.1
  have a3 : m8.length * 8 ≤ reachBytes := h8.1
  have a4 : m9.length * 8 ≤ reachBytes := h9.1
  exact ⟨⟨⟨by show m1.length * 8 ≤ _; omega, by show m3.length * 8 ≤ _; omega, by show m8.length * 8 ≤ _; omega, by show m9.length * 8 ≤ _; omega⟩, h2, h7, h1, h3, h8, h9⟩, rfl⟩
end Go.Proofs.YtfcekiehcchebaaDoor.L

/- What the functions compute that turn a machine that is pointed at: contracts. -/
set_option linter.unusedVariables false
set_option linter.unusedSimpArgs false
set_option maxRecDepth 100000
namespace Go.Proofs.YtfcekiehcchebaaDoor.L
open Go.RowKit
theorem set_row (l : List Int) (i : Nat) (v : Int) (h : i < l.length) (j : Nat) : (if j = i then splice (intsF l j) 0 [D.v (.int .i64 v)] else intsF l j) = intsF (l.set i v) j := by
  by_cases e : j = i
  · subst e
    rw [if_pos rfl]
    show [D.v (.int .i64 v)] = [D.v (.int .i64 ((l.set j v).getD j 0))]
    simp [List.getD, h]
  · rw [if_neg e]
    show [D.v (.int .i64 (l.getD j 0))] = [D.v (.int .i64 ((l.set i v).getD j 0))]
    simp [List.getD, List.getElem?_set_ne (Ne.symm e)]
abbrev hBox (m : HartM) : Ent := .box 29 (hartK m 1 2 3 4)
/-- a machine's memory: the machine, its rows -/
abbrev hMem (m : HartM) : List (Nat × Ent) := [(0, hBox m), (1, rowE m.regs), (2, rowE m.csr), (3, rowE m.inp), (4, rowE m.out)]
def backM (m : HartM) : HartM := { m with pc := m.csr.getD 2 0, csr := m.csr.set 0 (IntKind.i64.wrap (2 + IntKind.i64.wrap (Int.tdiv (m.csr.getD 0 0) 2))) }
end Go.Proofs.YtfcekiehcchebaaDoor.L

/- What the functions compute that send a machine back from a trap: contracts. -/
set_option linter.unusedVariables false
set_option linter.unusedSimpArgs false
set_option maxRecDepth 100000
namespace Go.Proofs.YtfcekiehcchebaaDoor.L
open Go.RowKit
def backHart (m : HartM) : Int × HartM := if hFault m = 0 then (0, backM m) else (hFault m, hartZ)
end Go.Proofs.YtfcekiehcchebaaDoor.L

/- What the functions compute that turn a machine that is pointed at: contracts. -/
set_option linter.unusedVariables false
set_option linter.unusedSimpArgs false
set_option maxRecDepth 100000
namespace Go.Proofs.YtfcekiehcchebaaDoor.L
open Go.RowKit
/-- a store into a row of whole numbers, at one place -/
theorem set_at {l : List Int} {i j : Nat} {v : Int} {x : List D} (h : x = intsF l j) (hi : i < l.length) : (if j = i then splice x 0 [D.v (.int .i64 v)] else x) = intsF (l.set i v) j := by
  rw [h]; exact set_row l i v hi j
def trapM (m : HartM) (c t : Int) : HartM := { m with pc := m.csr.getD 1 0, csr := (((m.csr.set 2 m.pc).set 3 c).set 4 t).set 0 (IntKind.i64.wrap (Int.tmod (m.csr.getD 0 0) 2 * 2)), waiting := false }
def trapHart (m : HartM) (c t : Int) : Int × HartM := if hFault m = 0 then (bif !inR c 0 31 || !isW t then (3, hartZ) else (0, trapM m c t)) else (hFault m, hartZ)
theorem upto_ints (a b : List Int) (i : Nat) : upto a.length (intsF a) (intsF b) i = intsF (a ++ b) i := by
  unfold upto
  show _ = [D.v (.int .i64 ((a ++ b).getD i 0))]
  split
  · rename_i h; show [D.v (.int .i64 (a.getD i 0))] = _; simp [List.getD, List.getElem?_append, h]
  · rename_i h; show [D.v (.int .i64 (b.getD (i - a.length) 0))] = _; simp [List.getD, List.getElem?_append, h]
def feedHart (m : HartM) (l : List Int) : Int × HartM :=
  if hFault m = 0 then (bif !l.all isW then (3, hartZ) else bif decide ((m.inp.length : Int) + l.length > 40) then (2, hartZ) else (0, { m with inp := m.inp ++ l })) else (hFault m, hartZ)
end Go.Proofs.YtfcekiehcchebaaDoor.L

/- What the functions compute that set a number of a machine: contracts. -/
set_option linter.unusedVariables false
set_option linter.unusedSimpArgs false
set_option maxRecDepth 100000
namespace Go.Proofs.YtfcekiehcchebaaDoor.L
open Go.RowKit
def wrapW (n : Int) : Int := n % 4294967296
theorem wrapW_le (n : Int) : 0 ≤ wrapW n ∧ wrapW n ≤ 4294967295 := by unfold wrapW; omega
theorem and_mask (a : Int) : IntKind.i64.wrap (BitVec.ofInt IntKind.i64.bits a &&& BitVec.ofInt IntKind.i64.bits 4294967295).toNat = wrapW a := by
  have e : (BitVec.ofInt IntKind.i64.bits a &&& BitVec.ofInt IntKind.i64.bits 4294967295).toNat = (a % 18446744073709551616).toNat % 4294967296 := by
    rw [BitVec.toNat_and, BitVec.toNat_ofInt, BitVec.toNat_ofInt]
    show (a % 18446744073709551616).toNat &&& (2 ^ 32 - 1) = _
    rw [Nat.and_two_pow_sub_one_eq_mod]
  rw [e]
  unfold wrapW
  have : (((a % 18446744073709551616).toNat % 4294967296 : Nat) : Int) = a % 4294967296 := by omega
  rw [this]
  exact wrap_i64 _ (by omega) (by omega)
theorem wrap_u32 (a : Int) : IntKind.u32.wrap a = a % 4294967296 := by
  simp [IntKind.wrap, IntKind.bits, IntKind.signed]
def setCsrL (m : HartM) (k v : Int) : HartM := { m with csr := m.csr.set k.toNat v }
def setM (m : HartM) (k w0 : Int) : HartM :=
  if k = 0 then setCsrL m k (Int.tmod (wrapW w0) 4) else if k = 7 then setCsrL m k (Int.tmod (wrapW w0) 8) else if k = 10 then setCsrL m k (if wrapW w0 ≤ 8 then wrapW w0 else 0)
  else if k = 6 then { m with rung := m.rung && decide (Int.tmod (wrapW w0) 4 < 2) } else if k = 8 then m else setCsrL m k (wrapW w0)
def setCsr (m : HartM) (k w : Int) : Int × HartM := if hFault m = 0 then (bif !inR k 0 10 then (3, hartZ) else (0, setM m k w)) else (hFault m, hartZ)
end Go.Proofs.YtfcekiehcchebaaDoor.L

/- What the functions compute that draw numbers out of a code's bytes: contracts. -/
set_option linter.unusedVariables false
set_option linter.unusedSimpArgs false
set_option maxRecDepth 100000
namespace Go.Proofs.YtfcekiehcchebaaDoor.L
open Go.RowKit
abbrev bytesD (c : List Int) : D := .l c.length fun i => [.v (.int .u8 (c.getD i 0))]
structure okCode (c : List Int) : Prop where
  len : c.length ≤ 1048576
  byte : ∀ x ∈ c, 0 ≤ x ∧ x ≤ 255
theorem okCode.at {c : List Int} (h : okCode c) (i : Nat) : 0 ≤ c.getD i 0 ∧ c.getD i 0 ≤ 255 := by
  rcases Nat.lt_or_ge i c.length with hi | hi
  · have : c.getD i 0 = c[i] := by simp [List.getD, List.getElem?_eq_getElem hi]
    rw [this]; exact h.byte _ (List.getElem_mem hi)
  · simp [List.getD, List.getElem?_eq_none hi]
def nxRaw (c : List Int) (p n : Int) : Int :=
  if (c.length : Int) = 0 then p * 7 else
  if n > 200 then (c.getD (Int.tmod p c.length).toNat 0 + Int.tdiv p c.length * 37) * 251 + c.getD (Int.tmod (p + 1) c.length).toNat 0 * 13 + p
  else c.getD (Int.tmod p c.length).toNat 0 + Int.tdiv p c.length * 37
def nx (c : List Int) (p n : Int) : Int := if n < 1 then 0 else Int.tmod (nxRaw c p n) n
theorem raw1 {b q : Int} (h1 : 0 ≤ b) (h2 : b ≤ 255) (h3 : 0 ≤ q) (h4 : q ≤ 1099511627776) : IntKind.i64.wrap (IntKind.i64.wrap b + IntKind.i64.wrap (IntKind.i64.wrap q * 37)) = b + q * 37 := by
  simp only [IntKind.wrap_i64]; omega
theorem tdiv_le {a b : Int} (h1 : 0 ≤ a) (h2 : 0 < b) : 0 ≤ Int.tdiv a b ∧ Int.tdiv a b ≤ a := ⟨Int.tdiv_nonneg h1 (by omega), Int.tdiv_le_self b h1⟩
theorem tmod_in {a b : Int} (h1 : 0 ≤ a) (h2 : 0 < b) : 0 ≤ Int.tmod a b ∧ Int.tmod a b < b := ⟨Int.tmod_nonneg b h1, Int.tmod_lt_of_pos a h2⟩
theorem nxRaw_le {c : List Int} (hc : okCode c) {p : Int} (h1 : 0 ≤ p) (n : Int) : 0 ≤ nxRaw c p n := by
  have a := hc.at (Int.tmod p c.length).toNat
  have b := hc.at (Int.tmod (p + 1) c.length).toNat
  have d : 0 ≤ Int.tdiv p c.length := Int.tdiv_nonneg h1 (Int.natCast_nonneg _)
  unfold nxRaw
  split
  · omega
  · split <;> omega
theorem nx_in {c : List Int} (hc : okCode c) {p : Int} (h1 : 0 ≤ p) {n : Int} (hn : 1 ≤ n) : 0 ≤ nx c p n ∧ nx c p n < n := by
  unfold nx
  rw [if_neg (by omega)]
  exact tmod_in (nxRaw_le hc h1 n) (by omega)
/-- what is picked -/
def pk (c : List Int) (p : Int) (l : List Int) : Int := l.getD (nx c p l.length).toNat 0
theorem pk_mem {c : List Int} (hc : okCode c) {p : Int} (hp : 0 ≤ p) {l : List Int} (hl : l ≠ []) : pk c p l ∈ l := by
  have h1 : 1 ≤ (l.length : Int) := by cases l with | nil => exact absurd rfl hl | cons => simp; omega
  have h2 := nx_in hc hp h1
  have h3 : (nx c p l.length).toNat < l.length := by omega
  unfold pk
  simp [List.getD, List.getElem?_eq_getElem h3]
/-- the elements of a literal -/
abbrev litD (l : List Int) (i : Nat) : List D := (l.map fun v => [D.v (.int .i64 v)]).getD i []
theorem litD_eq (l : List Int) (i : Nat) (h : i < l.length) : litD l i = intsF l i := by
  show _ = [D.v (.int .i64 (l.getD i 0))]
  simp [litD, List.getD, h]
attribute [irreducible] nx pk
def wd (c : List Int) (p : Int) : Int := pk c (p + 1 + 1 + 1 + 1) [nx c p 90, nx c (p + 1) 9, IntKind.i64.wrap (4294967295 - nx c (p + 1 + 1) 9), 2147483648, 2147483647, 0, IntKind.i64.wrap (nx c (p + 1 + 1 + 1) 60000 * 70000)]
attribute [irreducible] wd
def wi (c : List Int) (p : Int) : Int := pk c (p + 5 + 5 + 5) [wd c p, wd c (p + 5), wd c (p + 5 + 5), -1, -9223372036854775808, 9223372036854775807, 4294967296, -5]
attribute [irreducible] wi
end Go.Proofs.YtfcekiehcchebaaDoor.L

/- What the law functions compute on pages and lonely machines: contracts. -/
set_option linter.unusedVariables false
set_option linter.unusedSimpArgs false
set_option maxRecDepth 100000
namespace Go.Proofs.YtfcekiehcchebaaDoor.L
open Go.RowKit
abbrev pageLV (p : PageM) : LV := .agg [di p.to, di p.kinds]
abbrev oPages (l : List PageM) : RC := .own 71 2 l.length (pagesF l)
theorem c_laws_toPage (p : PageM) : FnOK Tryd.prog 43 [pageLV p] (.r (.agg [.v (.int .i64 p.to), .v (.int .i64 p.kinds)])) := by
  refine fn_of lv43 Tryd.func43 rfl rfl (by kernel_rfl) rfl ?_
  exact ⟨⟨rfl, rfl, trivial⟩, rfl⟩
theorem c_laws_toPageS (l : List PageM) (hl : l.length * 16 ≤ 140737488355328) : FnOK Tryd.prog 27 [.d (pages l)] (.r (.one (oPages l))) := by
  refine fn_of lv27 Tryd.func27 rfl rfl (by kernel_rfl) rfl ?_
  refine ask_intro ⟨rfl, by omega, by show (l.length : Int) * 16 ≤ 140737488355328; omega, by omega⟩ ?_
  refine ⟨{ i : Nat // i ≤ l.length }, fun i => ⟨frL [(0, .d (pages l)), (3, .row 96), (4, di i.1)], hpL [(96, .row 71 2 l.length fun j => if j < i.1 then pagesF l j else pageD ⟨0, 0⟩)], 97, 0⟩, fun i => l.length - i.1, ⟨0, by omega⟩,
    le_of [(96, 4160)] rfl rfl rfl rfl (tellHp_row rfl rfl rfl (fun i hi => rfl) tellHp_nil) (tellFr_d rfl (DLe.refl _) (tellFr_row rfl rfl (tellFr_v rfl rfl trivial))), ?_⟩
  rintro ⟨i, hi⟩
  refine bsplit_intro (fun h => ?_) (fun h => ?_)
  · have h : i < l.length := by simp at h; exact h
    refine ask_intro ⟨by omega, by simp; omega, rfl⟩ ?_
    refine .inl ⟨_, _, rfl, c_laws_toPage (l.getD i ⟨0, 0⟩), rfl, ?_⟩
    refine ask_intro ⟨by omega, by simp; omega⟩ ?_
    refine ask_intro (by show i < l.length; exact h) ?_
    refine ⟨⟨i + 1, by omega⟩, le_of [(96, 96)] rfl rfl rfl rfl (tellHp_row rfl rfl rfl (fun j hj => ?_) tellHp_nil) (tellFr_d rfl (DLe.refl _) (tellFr_row rfl rfl (tellFr_v rfl (congrArg (Value.int .i64) (?_ : IntKind.i64.wrap ((i : Int) + 1) = ((i + 1 : Nat) : Int))) trivial))), ?_⟩
    · show (if j = i then splice (if j < i then pagesF l j else pageD ⟨0, 0⟩) 0 (pageD (l.getD i ⟨0, 0⟩)) else if j < i then pagesF l j else pageD ⟨0, 0⟩) = if j < i + 1 then pagesF l j else pageD ⟨0, 0⟩
      by_cases h1 : j = i
      · subst h1
        rw [if_pos rfl, if_neg (by omega), if_pos (by omega)]
        rfl
      · rw [if_neg h1]
        by_cases h2 : j < i
        · rw [if_pos h2, if_pos (by omega)]
        · rw [if_neg h2, if_neg (by omega)]
    · exact wrap_i64 (i + 1) (by omega) (by omega)
    · show l.length - (i + 1) < l.length - i
      omega
  · simp at h
    refine ⟨⟨⟨rfl, rfl, rfl, fun j hj => ⟨?_, rfl⟩⟩, trivial⟩, rfl⟩
    show (if j < i then pagesF l j else _) = _
    rw [if_pos (by omega)]
theorem c_laws_szPageS (l : List PageM) (q : Int) (hq : -9223372036854775808 ≤ q - l.length) (hq2 : q - l.length < 9223372036854775808) : FnOK Tryd.prog 24 [.d (pages l), di q] (ri (if q - l.length < 0 then -1 else q - l.length)) := by
  refine fn_of lv24 Tryd.func24 rfl rfl rfl rfl ?_
  refine bsplit_intro (fun h => ?_) (fun h => ?_)
  · refine ⟨⟨congrArg (Value.int .i64) (?_ : (-1 : Int) = _), trivial⟩, rfl⟩
    rw [wrap_i64 _ hq hq2] at h
    simp only [decide_eq_true_eq] at h
    rw [if_pos h]
  · refine ⟨⟨congrArg (Value.int .i64) (?_ : IntKind.i64.wrap (q - l.length) = _), trivial⟩, rfl⟩
    rw [wrap_i64 _ hq hq2] at h ⊢
    simp only [decide_eq_false_iff_not] at h
    rw [if_neg h]
theorem c_laws_eqPage (p q : PageM) : FnOK Tryd.prog 49 [pageLV p, pageLV q] (rb (decide (p = q))) := by
  refine fn_of lv49 Tryd.func49 rfl rfl (by kernel_rfl) rfl ?_
  repeat' (first | refine bsplit_true ?_ | refine bsplit_false ?_ | refine bsplit_intro (fun h => ?_) (fun h => ?_))
  all_goals refine ⟨⟨congrArg Value.bool ?_, trivial⟩, rfl⟩
  all_goals (obtain ⟨a1, a2⟩ := p; obtain ⟨b1, b2⟩ := q; simp_all)
theorem drop_consG {α : Type} (d : α) (l : List α) (i : Nat) (h : i < l.length) : l.drop i = l.getD i d :: l.drop (i + 1) :=
  (List.drop_eq_getElem_cons h).trans (by rw [show l[i] = l.getD i d by simp [List.getD, List.getElem?_eq_getElem h]])
theorem c_laws_eqPageS (l m : List PageM) (hl : l.length ≤ 9223372036854775807) : FnOK Tryd.prog 30 [.d (pages l), .d (pages m)] (rb (decide (l = m))) := by
  refine fn_of lv30 Tryd.func30 rfl rfl (by kernel_rfl) rfl ?_
  refine bsplit_intro (fun h => ?_) (fun h => ?_)
  · refine ⟨⟨congrArg Value.bool (?_ : false = _), trivial⟩, rfl⟩
    simp at h
    symm
    rw [decide_eq_false_iff_not]
    rintro rfl
    exact h rfl
  have hlen : l.length = m.length := by simp at h; omega
  refine ⟨{ i : Nat // i ≤ l.length ∧ decide (l.drop i = m.drop i) = decide (l = m) }, fun i => ⟨frL [(0, .d (pages l)), (1, .d (pages m)), (5, di i.1)], hpL [], 0, 0⟩, fun i => l.length - i.1, ⟨0, by simp⟩,
    le_of [] rfl rfl rfl rfl trivial (tellFr_d rfl (DLe.refl _) (tellFr_d rfl (DLe.refl _) (tellFr_v rfl rfl trivial))), ?_⟩
  rintro ⟨i, hi, hall⟩
  refine bsplit_intro (fun h => ?_) (fun h => ?_)
  · have h : i < l.length := by simp at h; exact h
    rw [drop_consG ⟨0, 0⟩ l i h, drop_consG ⟨0, 0⟩ m i (by omega)] at hall
    refine ask_intro ⟨by omega, by simp; omega, rfl⟩ ?_
    refine ask_intro ⟨by omega, by simp; omega, rfl⟩ ?_
    refine .inl ⟨_, _, rfl, c_laws_eqPage (l.getD i ⟨0, 0⟩) (m.getD i ⟨0, 0⟩), rfl, ?_⟩
    refine chk_intro (by kernel_rfl) ?_
    refine bsplit_intro (fun h2 => ?_) (fun h2 => ?_)
    · refine ⟨⟨congrArg Value.bool (?_ : false = _), trivial⟩, rfl⟩
      have h2 : ¬ l.getD i ⟨0, 0⟩ = m.getD i ⟨0, 0⟩ := by simpa only [Bool.not_eq_true', decide_eq_false_iff_not] using h2
      rw [← hall]
      symm
      rw [decide_eq_false_iff_not]
      intro e
      exact h2 (List.cons.inj e).1
    · have h2 : l.getD i ⟨0, 0⟩ = m.getD i ⟨0, 0⟩ := by simpa only [Bool.not_eq_false', decide_eq_true_eq] using h2
      rw [h2] at hall
      refine ⟨⟨i + 1, by omega, by rw [← hall]; simp⟩, le_of [] rfl rfl rfl rfl trivial (tellFr_d rfl (DLe.refl _) (tellFr_d rfl (DLe.refl _) (tellFr_v rfl (congrArg (Value.int .i64) (?_ : IntKind.i64.wrap ((i : Int) + 1) = ((i + 1 : Nat) : Int))) trivial))), by show l.length - (i + 1) < l.length - i; omega⟩
      exact wrap_i64 (i + 1) (by omega) (by omega)
  · refine ⟨⟨congrArg Value.bool (?_ : true = _), trivial⟩, rfl⟩
    simp at h
    rw [← hall, List.drop_eq_nil_of_le h, List.drop_eq_nil_of_le (by omega)]; simp
end Go.Proofs.YtfcekiehcchebaaDoor.L

/- The law function over a machine that is rung answers true. -/
set_option linter.unusedVariables false
set_option linter.unusedSimpArgs false
set_option maxRecDepth 100000
namespace Go.Proofs.YtfcekiehcchebaaDoor.L
open Go.RowKit
theorem few_of_sz {m : HartM} (h : decide (hSz m 1048576 < 0) = false) : m.few := by
  simp only [decide_eq_false_iff_not] at h
  unfold hSz at h
  simp only at h
  split at h
  · omega
  · rename_i h2
    exact ⟨by omega, by omega, by omega, by omega⟩
theorem hartZ_few : hartZ.few ∧ hartZ.small := ⟨⟨by decide, by decide, by decide, by decide⟩, ⟨by decide, by decide, by decide, by decide⟩⟩
theorem ringHart_few (m : HartM) (hf : m.few) (hs : m.small) : (ringHart m).2.few ∧ (ringHart m).2.small := by
  unfold ringHart
  split
  · exact ⟨⟨hf.regs, hf.csr, hf.inp, hf.out⟩, ⟨hs.regs, hs.csr, hs.inp, hs.out⟩⟩
  · exact hartZ_few
end Go.Proofs.YtfcekiehcchebaaDoor.L

/- What the functions that look at a lonely machine compute: contracts. -/
set_option linter.unusedVariables false
set_option linter.unusedSimpArgs false
set_option maxRecDepth 100000
namespace Go.Proofs.YtfcekiehcchebaaDoor.L
open Go.RowKit
theorem LVLe.pre (xs ys : List D) : LVLe (.dptr (xs ++ ys)) (.dptr xs) := fun W F v hv => by
  cases hv with
  | dptr vs hs hI hc hr =>
    refine .dptr vs hs hI (fun j hj => hc j (by simp; omega)) (fun j hj => ?_)
    have := hr j (by simp; omega)
    have e : (xs ++ ys).getD j (.v undef) = xs.getD j (.v undef) := by simp [List.getD, List.getElem?_append, hj]
    rwa [e] at this
structure SoloM where
  hart : HartM
  pages : List PageM
  mem : List Int
  deriving DecidableEq
abbrev soloD (x : SoloM) : List D := [ints x.hart.regs, dI x.hart.pc, ints x.hart.csr, dB x.hart.halted, dB x.hart.waiting, dB x.hart.rung, dI x.hart.done, ints x.hart.inp, ints x.hart.out, Go.Proofs.YtfcekiehcchebaaDoor.L.pages x.pages, ints x.mem]
abbrev soloLV (x : SoloM) : LV := .agg [.d (ints x.hart.regs), di x.hart.pc, .d (ints x.hart.csr), dv (.bool x.hart.halted), dv (.bool x.hart.waiting), dv (.bool x.hart.rung), di x.hart.done, .d (ints x.hart.inp), .d (ints x.hart.out), .d (Go.Proofs.YtfcekiehcchebaaDoor.L.pages x.pages), .d (ints x.mem)]
abbrev soloR (x : SoloM) : RV1 := .agg [oInts x.hart.regs, .v (.int .i64 x.hart.pc), oInts x.hart.csr, .v (.bool x.hart.halted), .v (.bool x.hart.waiting), .v (.bool x.hart.rung), .v (.int .i64 x.hart.done), oInts x.hart.inp, oInts x.hart.out, oPages x.pages, oInts x.mem]
structure SoloM.small (x : SoloM) : Prop where
  hart : x.hart.small
  pages : x.pages.length * 16 ≤ 140737488355328
  mem : x.mem.length * 8 ≤ 140737488355328
theorem c_laws_toSolo (x : SoloM) (hs : x.small) : FnOK Tryd.prog 13 [soloLV x] (.r (soloR x)) := by
  refine fn_of lv13 Tryd.func13 rfl rfl (by kernel_rfl) rfl ?_
  refine .inl ⟨_, _, rfl, c_laws_toHart x.hart hs.hart, rfl, ?_⟩
  refine .inl ⟨_, _, rfl, c_laws_toPageS x.pages hs.pages, rfl, ?_⟩
  refine .inl ⟨_, _, rfl, c_laws_toInt64S x.mem hs.mem, rfl, ?_⟩
  exact ⟨⟨⟨rfl, rfl, rfl, fun i hi => ⟨rfl, rfl⟩⟩, rfl, ⟨rfl, rfl, rfl, fun i hi => ⟨rfl, rfl⟩⟩, rfl, rfl, rfl, rfl, ⟨rfl, rfl, rfl, fun i hi => ⟨rfl, rfl⟩⟩, ⟨rfl, rfl, rfl, fun i hi => ⟨rfl, rfl⟩⟩, ⟨rfl, rfl, rfl, fun i hi => ⟨rfl, rfl⟩⟩, ⟨rfl, rfl, rfl, fun i hi => ⟨rfl, rfl⟩⟩, trivial⟩, rfl⟩
theorem c_laws_eqSolo (x y : SoloM) (hs : x.small) : FnOK Tryd.prog 15 [soloLV x, soloLV y] (rb (decide (x = y))) := by
  have hp := hs.pages
  have hm := hs.mem
  refine fn_of lv15 Tryd.func15 rfl rfl (by kernel_rfl) rfl ?_
  refine .inl ⟨_, _, rfl, c_laws_eqHart x.hart y.hart hs.hart, rfl, ?_⟩
  refine bsplit_intro (fun h => ?_) (fun h => ?_)
  · refine ⟨⟨congrArg Value.bool ?_, trivial⟩, rfl⟩
    obtain ⟨a1, a2, a3⟩ := x; obtain ⟨b1, b2, b3⟩ := y; simp_all
  refine .inl ⟨_, _, rfl, c_laws_eqPageS x.pages y.pages (by omega), rfl, ?_⟩
  refine bsplit_intro (fun h1 => ?_) (fun h1 => ?_)
  · refine ⟨⟨congrArg Value.bool ?_, trivial⟩, rfl⟩
    obtain ⟨a1, a2, a3⟩ := x; obtain ⟨b1, b2, b3⟩ := y; simp_all
  refine .inl ⟨_, _, rfl, c_laws_eqInt64S x.mem y.mem (by omega), rfl, ?_⟩
  refine bsplit_intro (fun h2 => ?_) (fun h2 => ?_)
  all_goals refine ⟨⟨congrArg Value.bool ?_, trivial⟩, rfl⟩
  all_goals (obtain ⟨a1, a2, a3⟩ := x; obtain ⟨b1, b2, b3⟩ := y; simp_all)
def soloFault (x : SoloM) : Int := if hFault x.hart = 0 then (if pagesFault x.pages 8 = 0 then (bif (memFault x.mem != 0) || ((x.mem.length : Int) != 64) then 1 else 0) else pagesFault x.pages 8) else hFault x.hart
theorem c_spec_SoloFault (x : SoloM) (hs : x.small) (hp : x.pages.length ≤ 1048576) (hm : x.mem.length ≤ 1048576) : FnOK Tryd.prog 25 [soloLV x] (ri (soloFault x)) := by
  generalize hr : soloFault x = r
  unfold soloFault at hr
  refine fn_of lv25 Tryd.func25 rfl rfl (by kernel_rfl) rfl ?_
  refine .inl ⟨_, _, rfl, (c_spec_l8Fault x.hart hs.hart).weak ⟨LVLe.pre (hartD x.hart) [Go.Proofs.YtfcekiehcchebaaDoor.L.pages x.pages, ints x.mem], trivial⟩, rfl, ?_⟩
  refine bsplit_intro (fun h => ?_) (fun h => ?_)
  · rw [if_neg (by simpa using h)] at hr
    exact ⟨⟨congrArg (Value.int .i64) hr, trivial⟩, rfl⟩
  rw [if_pos (by simpa using h)] at hr
  refine .inl ⟨_, _, rfl, c_spec_PagesFault x.pages 8 hp, rfl, ?_⟩
  refine bsplit_intro (fun h3 => ?_) (fun h3 => ?_)
  · rw [if_neg (by simpa using h3)] at hr
    exact ⟨⟨congrArg (Value.int .i64) hr, trivial⟩, rfl⟩
  rw [if_pos (by simpa using h3)] at hr
  refine .inl ⟨_, _, rfl, c_spec_MemoryFault x.mem hm, rfl, ?_⟩
  refine bsplit_intro (fun h1 => ?_) (fun h1 => ?_)
  · repeat' (first | refine bsplit_true ?_ | refine bsplit_false ?_)
    rw [h1] at hr
    exact ⟨⟨congrArg (Value.int .i64) hr, trivial⟩, rfl⟩
  repeat' (first | refine bsplit_true ?_ | refine bsplit_false ?_)
  rw [h1, Bool.false_or] at hr
  refine bsplit_intro (fun h2 => ?_) (fun h2 => ?_)
  · rw [h2] at hr
    exact ⟨⟨congrArg (Value.int .i64) hr, trivial⟩, rfl⟩
  · rw [h2] at hr
    exact ⟨⟨congrArg (Value.int .i64) hr, trivial⟩, rfl⟩
theorem c_impl_SoloFault (x : SoloM) (hs : x.small) (hp : x.pages.length ≤ 1048576) (hm : x.mem.length ≤ 1048576) : FnOK Tryd.prog 28 [soloLV x] (ri (soloFault x)) := by
  generalize hr : soloFault x = r
  unfold soloFault at hr
  have e2 : firstNZ [hFault x.hart, pagesFault x.pages 8] = if hFault x.hart = 0 then pagesFault x.pages 8 else hFault x.hart := by
    simp only [firstNZ]
    split
    · split
      · rename_i h; exact h.symm
      · rfl
    · rfl
  refine fn_of lv28 Tryd.func28 rfl rfl (by kernel_rfl) rfl ?_
  refine .inl ⟨_, _, rfl, c_impl_HartFault x.hart hs.hart, rfl, ?_⟩
  refine .inl ⟨_, _, rfl, c_impl_PagesFault x.pages 8 hp, rfl, ?_⟩
  refine .inl ⟨_, _, rfl, (c_impl_firstOf [hFault x.hart, pagesFault x.pages 8] (by simp)).weak ⟨LVLe.d (DLe.l rfl (fun i hi => litD_eq [hFault x.hart, pagesFault x.pages 8] i hi)), trivial⟩, rfl, ?_⟩
  refine chk_intro (by kernel_rfl) ?_
  refine bsplit_intro (fun h => ?_) (fun h => ?_)
  · have h : ¬ firstNZ [hFault x.hart, pagesFault x.pages 8] = 0 := by simpa only [bne_iff_ne, ne_eq] using h
    refine ⟨⟨congrArg (Value.int .i64) ?_, trivial⟩, rfl⟩
    show firstNZ [hFault x.hart, pagesFault x.pages 8] = r
    rw [e2] at h ⊢
    rw [← hr]
    split
    · rename_i h0
      rw [if_pos h0] at h
      rw [if_neg h]
    · rfl
  have h : firstNZ [hFault x.hart, pagesFault x.pages 8] = 0 := by simpa only [bne_eq_false_iff_eq] using h
  rw [e2] at h
  have h0 : hFault x.hart = 0 := by
    by_cases h0 : hFault x.hart = 0
    · exact h0
    · rw [if_neg h0] at h; exact h
  rw [if_pos h0] at h
  rw [if_pos h0, if_pos h] at hr
  refine .inl ⟨_, _, rfl, c_impl_MemoryFault x.mem hm, rfl, ?_⟩
  refine bsplit_intro (fun h1 => ?_) (fun h1 => ?_)
  · repeat' (first | refine bsplit_true ?_ | refine bsplit_false ?_)
    rw [h1] at hr
    exact ⟨⟨congrArg (Value.int .i64) hr, trivial⟩, rfl⟩
  repeat' (first | refine bsplit_true ?_ | refine bsplit_false ?_)
  rw [h1, Bool.false_or] at hr
  refine bsplit_intro (fun h2 => ?_) (fun h2 => ?_)
  · rw [h2] at hr
    exact ⟨⟨congrArg (Value.int .i64) hr, trivial⟩, rfl⟩
  · rw [h2] at hr
    exact ⟨⟨congrArg (Value.int .i64) hr, trivial⟩, rfl⟩
theorem hSz_le (m : HartM) (h : ¬ hSz m 1048576 < 0) : 0 ≤ hSz m 1048576 ∧ hSz m 1048576 ≤ 1048576 := by
  refine ⟨by omega, ?_⟩
  unfold hSz
  simp only
  split <;> omega
theorem szSoloE (x : SoloM) (hs : x.small) : ∃ v : Int, (¬ v < 0 → x.hart.few ∧ x.pages.length ≤ 1048576 ∧ x.mem.length ≤ 1048576) ∧ FnOK Tryd.prog 11 [soloLV x, di 1048576] (ri v) := by
  have hp := hs.pages
  have hm := hs.mem
  by_cases h1 : hSz x.hart 1048576 < 0
  · refine ⟨-1, by omega, fn_of lv11 Tryd.func11 rfl rfl (by kernel_rfl) rfl ?_⟩
    refine .inl ⟨_, _, rfl, c_laws_szHart x.hart hs.hart _ (by decide) (by decide), rfl, ?_⟩
    refine bsplit_of_true (decide_eq_true h1) ?_
    exact ⟨⟨rfl, trivial⟩, rfl⟩
  obtain ⟨q1, q2⟩ := hSz_le x.hart h1
  have hf := few_of_sz (decide_eq_false h1)
  have cp := c_laws_szPageS x.pages (hSz x.hart 1048576) (by omega) (by omega)
  by_cases h2 : hSz x.hart 1048576 - x.pages.length < 0
  · rw [if_pos h2] at cp
    refine ⟨-1, by omega, fn_of lv11 Tryd.func11 rfl rfl (by kernel_rfl) rfl ?_⟩
    refine .inl ⟨_, _, rfl, c_laws_szHart x.hart hs.hart _ (by decide) (by decide), rfl, ?_⟩
    refine bsplit_of_false (decide_eq_false h1) ?_
    refine .inl ⟨_, _, rfl, cp, rfl, ?_⟩
    repeat' (first | refine bsplit_true ?_ | refine bsplit_false ?_)
    exact ⟨⟨rfl, trivial⟩, rfl⟩
  rw [if_neg h2] at cp
  have cm := c_laws_szInt64S x.mem (hSz x.hart 1048576 - x.pages.length) (by omega) (by omega)
  by_cases h3 : hSz x.hart 1048576 - x.pages.length - x.mem.length < 0
  · rw [if_pos h3] at cm
    refine ⟨-1, by omega, fn_of lv11 Tryd.func11 rfl rfl (by kernel_rfl) rfl ?_⟩
    refine .inl ⟨_, _, rfl, c_laws_szHart x.hart hs.hart _ (by decide) (by decide), rfl, ?_⟩
    refine bsplit_of_false (decide_eq_false h1) ?_
    refine .inl ⟨_, _, rfl, cp, rfl, ?_⟩
    refine bsplit_of_false (decide_eq_false h2) ?_
    refine .inl ⟨_, _, rfl, cm, rfl, ?_⟩
    repeat' (first | refine bsplit_true ?_ | refine bsplit_false ?_)
    exact ⟨⟨rfl, trivial⟩, rfl⟩
  rw [if_neg h3] at cm
  refine ⟨hSz x.hart 1048576 - x.pages.length - x.mem.length, fun _ => ⟨hf, by omega, by omega⟩, fn_of lv11 Tryd.func11 rfl rfl (by kernel_rfl) rfl ?_⟩
  refine .inl ⟨_, _, rfl, c_laws_szHart x.hart hs.hart _ (by decide) (by decide), rfl, ?_⟩
  refine bsplit_of_false (decide_eq_false h1) ?_
  refine .inl ⟨_, _, rfl, cp, rfl, ?_⟩
  refine bsplit_of_false (decide_eq_false h2) ?_
  refine .inl ⟨_, _, rfl, cm, rfl, ?_⟩
  refine bsplit_of_false (decide_eq_false h3) ?_
  exact ⟨⟨rfl, trivial⟩, rfl⟩
end Go.Proofs.YtfcekiehcchebaaDoor.L

/- The law function over what is wrong with a lonely machine answers true; how one is read. -/
set_option linter.unusedVariables false
set_option linter.unusedSimpArgs false
set_option maxRecDepth 100000
namespace Go.Proofs.YtfcekiehcchebaaDoor.L
open Go.RowKit Go.ChangeShapes Go.WideShapes Go.ChangeAt
theorem reads_page : ReadsT Tryd.prog 73 2 PageM pageD (fun p => ok64 p.to ∧ ok64 p.kinds) :=
  (ReadsT.struct (ok := _) Tryd.underlying73 (by kernel_rfl) (ReadsL.cons reads_int64 (.cons reads_int64 (.nil 2)))).map (fun m => ⟨m.1, m.2.1⟩) (fun m h => ⟨⟨h.1, h.2.1⟩, rfl⟩)
theorem reads_pages : ReadsT Tryd.prog 34 1 (List PageM) (fun l => [pages l]) (fun l => l.length * 16 ≤ reachBytes ∧ ∀ x ∈ l, ok64 x.to ∧ ok64 x.kinds) := ReadsT.slice reads_page Tryd.underlying34 (by kernel_rfl) (by decide) ⟨0, 0⟩ (by kernel_rfl)
structure SoloM.ok (x : SoloM) : Prop where
  hart : x.hart.ok
  pages : x.pages.length * 16 ≤ reachBytes ∧ ∀ p ∈ x.pages, ok64 p.to ∧ ok64 p.kinds
  mem : okInts x.mem
theorem SoloM.ok.small {x : SoloM} (h : x.ok) : x.small := by
  have e := reach_eq
  have a := h.pages.1
  have b := h.mem.1
  exact ⟨h.hart.small, by omega, by omega⟩
theorem reads_Solo : ReadsT Tryd.prog 36 11 SoloM soloD SoloM.ok :=
  (ReadsT.struct (ok := _) Tryd.underlying36 (by kernel_rfl) (ReadsL.cons reads_Hart (.cons reads_pages (.cons reads_ints (.nil 11))))).map (fun m => ⟨m.1, m.2.1, m.2.2.1⟩) (fun m h => ⟨⟨h.1, h.2.1, h.2.2.1⟩, rfl⟩)
end Go.Proofs.YtfcekiehcchebaaDoor.L

/- What the functions compute that read and write a machine's device page: contracts. -/
set_option linter.unusedVariables false
set_option linter.unusedSimpArgs false
set_option maxRecDepth 100000
namespace Go.Proofs.YtfcekiehcchebaaDoor.L
open Go.RowKit
theorem drop_ints (l : List Int) (k i : Nat) : intsF l (k + i) = intsF (l.drop k) i := by
  show [D.v (.int .i64 (l.getD (k + i) 0))] = [D.v (.int .i64 ((l.drop k).getD i 0))]
  simp [List.getD, List.getElem?_drop]
def readV (m : HartM) (k : Int) : Int := if k = 1 then m.inp.getD 0 0 else if k = 2 then m.done else if k = 3 then m.csr.getD 9 0 else if k = 4 then pend m else if k = 6 then m.inp.length else 0
def readM (m : HartM) (k : Int) : HartM := if k = 1 then { m with inp := m.inp.drop 1 } else m
abbrev hMemI (m : HartM) : List (Nat × Ent) := [(0, .box 29 (hartK m 1 2 5 4)), (1, rowE m.regs), (2, rowE m.csr), (5, rowE m.inp), (4, rowE m.out)]
abbrev hMemD (m : HartM) : List (Nat × Ent) := [(0, .box 29 [.row 1, di m.pc, .row 2, dv (.bool m.halted), dv (.bool m.waiting), dv (.bool m.rung), di m.done, .d (ints m.inp), .row 4]), (1, rowE m.regs), (2, rowE m.csr), (4, rowE m.out)]
theorem readM_ne {m : HartM} {k : Int} (h : k ≠ 1) : readM m k = m := if_neg h
def writeV (k w : Int) : Int := if k = 5 then wrapW w else -1
def writeM (m : HartM) (k w : Int) : HartM := if k = 0 then (if m.out.length < 40 then { m with out := m.out ++ [wrapW w] } else m) else if k = 3 then setM m 9 w else if k = 4 then setM m 6 w else m
theorem wrapW_wrapW (w : Int) : wrapW (wrapW w) = wrapW w := by unfold wrapW; omega
theorem setM_wrapW (m : HartM) (k w : Int) : setM m k (wrapW w) = setM m k w := by unfold setM; rw [wrapW_wrapW]
abbrev hMemO (m : HartM) : List (Nat × Ent) := [(0, .box 29 (hartK m 1 2 3 5)), (1, rowE m.regs), (2, rowE m.csr), (3, rowE m.inp), (5, rowE m.out)]
theorem app_ints (l : List Int) (w : Int) (i : Nat) : upto l.length (intsF l) (fun i => ([[D.v (.int .i64 w)]] : List (List D)).getD i []) i = intsF (l ++ [w]) i ∨ l.length + 1 ≤ i := by
  rcases Nat.lt_or_ge i (l.length + 1) with h | h
  · refine .inl ?_
    unfold upto
    show _ = [D.v (.int .i64 ((l ++ [w]).getD i 0))]
    split
    · rename_i h; show [D.v (.int .i64 (l.getD i 0))] = _; simp [List.getD, List.getElem?_append, h]
    · have : i = l.length := by omega
      subst this
      simp [List.getD]
  · exact .inr h
theorem app_ints' (l : List Int) (w : Int) (i : Nat) (h : i < l.length + 1) : upto l.length (intsF l) (fun i => ([[D.v (.int .i64 w)]] : List (List D)).getD i []) i = intsF (l ++ [w]) i := (app_ints l w i).resolve_right (by omega)
theorem one_len (v : Int) (i : Nat) (hi : i < 1) : (([[D.v (.int .i64 v)]] : List (List D)).getD i []).length = 1 := by
  obtain rfl : i = 0 := by omega
  rfl
end Go.Proofs.YtfcekiehcchebaaDoor.L

/- What the functions compute that tell the words of a page: contracts. -/
set_option linter.unusedVariables false
set_option linter.unusedSimpArgs false
set_option maxRecDepth 100000
namespace Go.Proofs.YtfcekiehcchebaaDoor.L
open Go.RowKit
def pageW (m : List Int) (p : Int) : List Int := (m.drop (p * 8).toNat).take 8
theorem pageW_len (m : List Int) (p : Int) (hp : 0 ≤ p) (h : (p + 1) * 8 ≤ m.length) : (pageW m p).length = 8 := by
  unfold pageW
  rw [List.length_take, List.length_drop]
  omega
theorem pageW_D (m : List Int) (p : Int) (hp : 0 ≤ p) (h : (p + 1) * 8 ≤ m.length) : DLe (.l (((p + 1) * 8 - p * 8)).toNat (fun i => intsF m ((p * 8).toNat + i))) (ints (pageW m p)) := by
  refine DLe.l (by rw [pageW_len m p hp h]; omega) (fun i hi => ?_)
  show [D.v (.int .i64 (m.getD ((p * 8).toNat + i) 0))] = [D.v (.int .i64 ((pageW m p).getD i 0))]
  unfold pageW
  have hi8 : i < 8 := by omega
  simp [List.getD, List.getElem?_take, hi8, List.getElem?_drop]
def wordsL (m : List Int) (ps : List Int) : List Int := ps.flatMap (pageW m)
theorem wordsL_len (m : List Int) : ∀ (ps : List Int), (∀ p ∈ ps, 0 ≤ p ∧ (p + 1) * 8 ≤ m.length) → (wordsL m ps).length = 8 * ps.length
  | [], _ => rfl
  | p :: ps, h => by
    have h1 := h p (by simp)
    have h2 := wordsL_len m ps (fun q hq => h q (by simp [hq]))
    unfold wordsL at h2 ⊢
    rw [List.flatMap_cons, List.length_append, pageW_len m p h1.1 h1.2, h2]
    simp; omega
theorem upto_app (a b : List Int) (g : Nat → List D) (hg : ∀ j, j < b.length → g j = intsF b j) (i : Nat) (h : i < a.length + b.length) : upto a.length (intsF a) g i = intsF (a ++ b) i := by
  rw [← upto_ints]
  unfold upto
  split
  · rfl
  · exact hg _ (by omega)
end Go.Proofs.YtfcekiehcchebaaDoor.L

/- What the functions compute that walk through pages: contracts. -/
set_option linter.unusedVariables false
set_option linter.unusedSimpArgs false
set_option maxRecDepth 100000
namespace Go.Proofs.YtfcekiehcchebaaDoor.L
open Go.RowKit
/-! ## the first place in a list for which something holds -/
def idxG {α : Type} (p : α → Bool) (l : List α) (i : Nat) : Int := bif (l.drop i).any p then (((l.drop i).findIdx p + i : Nat) : Int) else -1
theorem getD_at {α : Type} {l : List α} {i : Nat} (d : α) (h : i < l.length) : l.getD i d = l[i] := by simp [List.getD, List.getElem?_eq_getElem h]
theorem drop_anyG {α : Type} (d : α) (l : List α) (p : α → Bool) (i : Nat) (h : i < l.length) : (l.drop i).any p = (p (l.getD i d) || (l.drop (i + 1)).any p) := by
  rw [List.drop_eq_getElem_cons h, List.any_cons, getD_at d h]
theorem idxG_hit {α : Type} (d : α) {l : List α} {p : α → Bool} {i : Nat} (h : i < l.length) (hp : p (l.getD i d) = true) : idxG p l i = i := by
  unfold idxG
  rw [drop_anyG d l p i h, hp, List.drop_eq_getElem_cons h]
  rw [getD_at d h] at hp
  rw [List.findIdx_cons, hp]
  simp
theorem idxG_miss {α : Type} (d : α) {l : List α} {p : α → Bool} {i : Nat} (h : i < l.length) (hp : p (l.getD i d) = false) : idxG p l i = idxG p l (i + 1) := by
  unfold idxG
  rw [drop_anyG d l p i h, hp, Bool.false_or, List.drop_eq_getElem_cons h]
  rw [getD_at d h] at hp
  cases (List.drop (i + 1) l).any p with
  | false => rfl
  | true =>
    simp only [cond_true, List.findIdx_cons, hp, cond_false]
    omega
theorem idxG_end {α : Type} {l : List α} {p : α → Bool} {i : Nat} (h : l.length ≤ i) : idxG p l i = -1 := by
  unfold idxG
  rw [List.drop_eq_nil_of_le h]; rfl
theorem idxG_any {α : Type} (l : List α) (p : α → Bool) : decide (idxG p l 0 ≥ 0) = l.any p := by
  unfold idxG
  rw [List.drop_zero]
  cases l.any p <;> simp
/-! ## where a place leads -/
abbrev andI (a b : Int) : Int := IntKind.i64.wrap (BitVec.ofInt 64 a &&& BitVec.ofInt 64 b).toNat
def pageAt (l : List PageM) (at_ : Int) : PageM := l.getD (IntKind.i64.wrap (Int.tdiv at_ 8)).toNat ⟨0, 0⟩
/-- -1: nowhere -/
def walkP (l : List PageM) (at_ kind : Int) : Int :=
  bif !inR at_ 0 63 then -1 else bif decide ((pageAt l at_).to < 0) || (andI (pageAt l at_).kinds kind == 0) then -1 else IntKind.i64.wrap (IntKind.i64.wrap ((pageAt l at_).to * 8) + Int.tmod at_ 8)
theorem div8 {a : Int} (h : 0 ≤ a) (h2 : a ≤ 63) : IntKind.i64.wrap (Int.tdiv a 8) = Int.tdiv a 8 ∧ 0 ≤ Int.tdiv a 8 ∧ Int.tdiv a 8 ≤ 7 := by
  have h3 : Int.tdiv a 8 = a / 8 := Int.tdiv_eq_ediv_of_nonneg h
  rw [h3]
  exact ⟨wrap_i64 _ (by omega) (by omega), by omega, by omega⟩
def kindC (k : Int) : Int := if k = 1 then 7 else if k = 2 then 8 else if k = 4 then 9 else 0
def kindOk (k : Int) : Bool := (k == 1) || ((k == 2) || (k == 4))
theorem kindC_ok (k : Int) : (kindC k == 0) = !kindOk k := by
  unfold kindC kindOk
  by_cases h1 : k = 1
  · subst h1; rfl
  by_cases h2 : k = 2
  · subst h2; rfl
  by_cases h4 : k = 4
  · subst h4; rfl
  simp [h1, h2, h4]
/-- where a place leads, with a code -/
def walkI (l : List PageM) (at_ kind : Int) : Int × Int := if walkP l at_ kind < 0 then (kindC kind, 0) else (0, walkP l at_ kind)
structure PgsOK (l : List PageM) (top : Int) : Prop where
  len : l.length = 8
  at_ : ∀ p ∈ l, -1 ≤ p.to ∧ p.to < top ∧ 0 ≤ p.kinds ∧ p.kinds ≤ 7
theorem PgsOK.get {l : List PageM} {top : Int} (h : PgsOK l top) {i : Nat} (hi : i < 8) : -1 ≤ (l.getD i ⟨0, 0⟩).to ∧ (l.getD i ⟨0, 0⟩).to < top := by
  rw [getD_at _ (by rw [h.len]; exact hi)]
  have := h.at_ _ (List.getElem_mem (by rw [h.len]; exact hi : i < l.length))
  exact ⟨this.1, this.2.1⟩
theorem walk_get {l : List PageM} {top at_ : Int} (h : PgsOK l top) (ht : top ≤ 24) (ha : inR at_ 0 63 = true) (h0 : ¬ (pageAt l at_).to < 0) :
    IntKind.i64.wrap (IntKind.i64.wrap ((pageAt l at_).to * 8) + Int.tmod at_ 8) = (pageAt l at_).to * 8 + Int.tmod at_ 8 ∧ 0 ≤ (pageAt l at_).to * 8 + Int.tmod at_ 8 ∧ (pageAt l at_).to * 8 + Int.tmod at_ 8 < top * 8 := by
  have h2 := inR_iff.1 ha
  obtain ⟨e1, e2, e3⟩ := div8 h2.1 h2.2
  have h3 : Int.tmod at_ 8 = at_ % 8 := Int.tmod_eq_emod_of_nonneg h2.1
  have h4 : (pageAt l at_).to < top := (h.get (by rw [e1]; omega)).2
  have e4 : IntKind.i64.wrap ((pageAt l at_).to * 8) = (pageAt l at_).to * 8 := wrap_i64 _ (by omega) (by omega)
  rw [e4, h3]
  exact ⟨wrap_i64 _ (by omega) (by omega), by omega, by omega⟩
end Go.Proofs.YtfcekiehcchebaaDoor.L

/- Policies: what the law functions compute on them (to, size, equality): contracts. -/
set_option linter.unusedVariables false
set_option linter.unusedSimpArgs false
set_option maxRecDepth 100000
namespace Go.Proofs.YtfcekiehcchebaaDoor.L
open Go.RowKit
structure LaneM where
  frm : Int
  to : Int
  page : Int
  af : Int
  at_ : Int
  deriving DecidableEq
abbrev laneD (p : LaneM) : List D := [dI p.frm, dI p.to, dI p.page, dI p.af, dI p.at_]
abbrev laneLV (p : LaneM) : LV := .agg [di p.frm, di p.to, di p.page, di p.af, di p.at_]
abbrev lanesF (l : List LaneM) (i : Nat) : List D := laneD (l.getD i ⟨0, 0, 0, 0, 0⟩)
abbrev lanes (l : List LaneM) : D := .l l.length (lanesF l)
structure BellM where
  frm : Int
  to : Int
  deriving DecidableEq
abbrev bellD (p : BellM) : List D := [dI p.frm, dI p.to]
abbrev bellLV (p : BellM) : LV := .agg [di p.frm, di p.to]
abbrev bellsF (l : List BellM) (i : Nat) : List D := bellD (l.getD i ⟨0, 0⟩)
abbrev bells (l : List BellM) : D := .l l.length (bellsF l)
structure SlotM where
  guest : Int
  steps : Int
  deriving DecidableEq
abbrev slotD (p : SlotM) : List D := [dI p.guest, dI p.steps]
abbrev slotLV (p : SlotM) : LV := .agg [di p.guest, di p.steps]
abbrev slotsF (l : List SlotM) (i : Nat) : List D := slotD (l.getD i ⟨0, 0⟩)
abbrev slots (l : List SlotM) : D := .l l.length (slotsF l)
end Go.Proofs.YtfcekiehcchebaaDoor.L

/- Policies: read, measured, compared: contracts. -/
set_option linter.unusedVariables false
set_option linter.unusedSimpArgs false
set_option maxRecDepth 100000
namespace Go.Proofs.YtfcekiehcchebaaDoor.L
open Go.RowKit
abbrev ownsF (l : List (List Int)) (i : Nat) : List D := [ints (l.getD i [])]
abbrev owns (l : List (List Int)) : D := .l l.length (ownsF l)
abbrev lenF (l : List (List Int)) (i : Nat) : Nat := (l.getD i []).length
abbrev inF (l : List (List Int)) (i j : Nat) : List D := intsF (l.getD i []) j
abbrev oOwns (l : List (List Int)) : RC := .ownn 22 2 1 l.length (lenF l) (inF l)
def sumN (l : List (List Int)) : Nat := (l.map List.length).sum
theorem sumN_take (l : List (List Int)) (i : Nat) (h : i < l.length) : sumN (l.take (i + 1)) = sumN (l.take i) + (l.getD i []).length := by
  unfold sumN
  rw [List.take_succ_eq_append_getElem h, List.map_append, List.sum_append, getD_at _ h]
  simp
theorem sumN_le (l : List (List Int)) (i : Nat) : sumN (l.take i) ≤ sumN l := by
  unfold sumN
  conv => rhs; rw [← List.take_append_drop i l, List.map_append, List.sum_append]
  omega
theorem sumN_get (l : List (List Int)) (i : Nat) (h : i < l.length) : (l.getD i []).length ≤ sumN l := by
  have := sumN_take l i h
  have := sumN_le l (i + 1)
  omega
def szO (l : List (List Int)) (q : Int) : Int := if q - (l.length + sumN l : Nat) < 0 then -1 else q - (l.length + sumN l : Nat)
/-! ## a policy -/
structure PolM where
  own : List (List Int)
  lns : List LaneM
  bls : List BellM
  pln : List SlotM
  deriving DecidableEq
abbrev polD (x : PolM) : List D := [owns x.own, lanes x.lns, bells x.bls, slots x.pln]
abbrev polLV (x : PolM) : LV := .agg [.d (owns x.own), .d (lanes x.lns), .d (bells x.bls), .d (slots x.pln)]
structure PolM.small (x : PolM) : Prop where
  own : x.own.length * 24 ≤ 140737488355328
  ins : ∀ i, i < x.own.length → (x.own.getD i []).length * 8 ≤ 140737488355328
  lns : x.lns.length * 40 ≤ 140737488355328
  bls : x.bls.length * 16 ≤ 140737488355328
  pln : x.pln.length * 16 ≤ 140737488355328
/-- how many things a policy has -/
def PolM.size (x : PolM) : Nat := x.own.length + sumN x.own + x.lns.length + x.bls.length + x.pln.length
def szP (x : PolM) (q : Int) : Int := if q - (x.size : Int) < 0 then -1 else q - (x.size : Int)
end Go.Proofs.YtfcekiehcchebaaDoor.L

/- What is wrong with a policy: the small functions: contracts. -/
set_option linter.unusedVariables false
set_option linter.unusedSimpArgs false
set_option maxRecDepth 100000
namespace Go.Proofs.YtfcekiehcchebaaDoor.L
open Go.RowKit
theorem beqc (v : Int) : (fun a : Int => v == a) = fun a => a == v := funext fun a => by
  by_cases h : v = a
  · subst h; rfl
  · rw [beq_eq_false_iff_ne.2 h, beq_eq_false_iff_ne.2 (Ne.symm h)]
abbrev hasI (l : List Int) (v : Int) : Bool := l.any fun a => a == v
theorem wrap1 {i n : Nat} (h : i < n) (hn : n ≤ 4611686018427387904) : IntKind.i64.wrap ((i : Int) + 1) = ((i + 1 : Nat) : Int) := wrap_i64 (i + 1) (by omega) (by omega)
theorem bellBeq (b : BellM) : (fun a : BellM => [b.frm, b.to] == [a.frm, a.to]) = fun a => a == b := funext fun a => by
  by_cases h : a = b
  · subst h; simp
  · rw [beq_eq_false_iff_ne.2 h]
    refine beq_eq_false_iff_ne.2 (fun e => h ?_)
    obtain ⟨a1, a2⟩ := a; obtain ⟨b1, b2⟩ := b
    simp only [List.cons.injEq, and_true] at e
    rw [e.1, e.2]
/-! ## guests, owners, ends -/
abbrev polP (x : PolM) : LV := .dptr (polD x)
def guestB (n : Nat) (g : Int) : Bool := inR g 0 ((n : Int) - 1)
theorem wrapm {n : Nat} (hn : n ≤ 4611686018427387904) : IntKind.i64.wrap ((n : Int) - 1) = (n : Int) - 1 := wrap_i64 _ (by omega) (by omega)
def ownerP (l : List (List Int)) (v : Int) : Int := idxG (fun r => hasI r v) l 0
def endsF (n : Nat) (a b : Int) : Int := bif !guestB n a || !guestB n b then 4 else bif a == b then 1 else 0
end Go.Proofs.YtfcekiehcchebaaDoor.L

/- Texts: the library's functions, as the kit's shelf has them, in the symbolic logic. -/
set_option linter.unusedVariables false
set_option linter.unusedSimpArgs false
set_option maxRecDepth 100000
namespace Go.Proofs.YtfcekiehcchebaaDoor.L
open Go.RowKit
/-- a text of these bytes -/
def tx (l : List UInt8) : ByteArray := ⟨l.toArray⟩
theorem tx_app (a b : List UInt8) : tx a ++ tx b = tx (a ++ b) := by
  apply ByteArray.ext
  simp [tx]
theorem tx_size (a : List UInt8) : (tx a).size = a.length := by
  show (tx a).data.size = _
  simp [tx]
theorem tx_list (a : List UInt8) : (tx a).data.toList = a := by simp [tx]
abbrev dT (l : List UInt8) : LV := .d (.v (.string (tx l)))
abbrev rT (l : List UInt8) : RV := .r (.one (.v (.string (tx l))))
/-- a function that answers a plain value and turns nothing of what was there -/
theorem FnOK.of_val {P : Program} {g : FuncId} {fn : Func} (hf : P.funcs[g]? = Option.some fn) (hb : fn.body.isSome = true) (hn : (fn.name == "runtime.NumGoroutine") = false) {lvs : List LV} {x : Value}
    (h : ∀ (W : World) (F : Nat → Prop) (vs : List Value), (∀ b, F b → b < W.heap.size) → GlOK F W → vs.length = lvs.length → (∀ j, j < lvs.length → VR (fun _ => none) W F (lvs.getD j .bad) (vs.getD j undef)) → Calls P g vs.toArray W fun e W' => e = .returned x ∧ Below W.heap.size W W') : FnOK P g lvs (.r (.one (.v x))) :=
  ⟨⟨fn, hf, hb, hn⟩, fun W F vs hG hl hv => (h W F vs hG.1 hG.2 hl hv).mono fun e W' ⟨he, hB⟩ => ⟨x, he, hB, ⟨[x], fun _ => False, rfl, rfl, fun b hb => hb.elim, fun j c hc => by
    match j, hc with
    | 0, hc => cases hc; exact rfl, fun j c e g hc ho => by
    match j, hc with
    | 0, hc => cases hc; simp [entOf] at ho, fun i j c d e e' g hc hd ho => by
    match i, hc with
    | 0, hc => cases hc; simp [entOf] at ho⟩⟩⟩
theorem below_grow (w : World) (k : Nat) (os : Array Obj) : Below w.heap.size w (Sort.grow (w.drewN k) os) := ⟨rfl, rfl, rfl, by simp [Sort.grow, World.drewN], fun i hi => by
  show (w.heap ++ os)[i]? = _
  rw [Array.getElem?_append_left hi]⟩
theorem vs2 {vs : List Value} (h : vs.length = 2) : ∃ a b, vs = [a, b] := by
  match vs, h with
  | [a, b], _ => exact ⟨a, b, rfl⟩
theorem VR.atomv {ρ : Nat → Option Value} {w : World} {I : Nat → Prop} {x v : Value} (h : VR ρ w I (.d (.v x)) v) : v = x := VR.atom h
theorem pow10_mem : (0, IntKind.u64, Lib.pow10Tab) ∈ gtab := by
  unfold gtab
  decide
theorem c_strconv_FormatInt (n : Int) (h0 : -9223372036854775808 ≤ n) (h1 : n ≤ 9223372036854775807) : FnOK Tryd.prog 38 [di n, di 10] (rT (Lib.itoa n)) :=
  FnOK.of_val Tryd.func38 (by kernel_rfl) (by kernel_rfl) fun W F vs hF hG hl hv => by
    obtain ⟨a, b, rfl⟩ := vs2 hl
    have ha : a = .int .i64 n := VR.atomv (hv 0 (by simp))
    have hb : b = .int .i64 10 := VR.atomv (hv 1 (by simp))
    subst ha hb
    have htab : Lib.TabIs Tryd.prog W "internal/strconv.uint64pow10" .u64 Lib.pow10Tab := tab_of_gl hG (by kernel_rfl) pow10_mem
    refine (Tryd.strconv_FormatInt_10 n h0 h1 W htab).mono fun e W' ⟨he, k, os, hw⟩ => ⟨he, ?_⟩
    subst hw
    exact below_grow W k os
/-- rows of texts -/
abbrev txsF (l : List (List UInt8)) (i : Nat) : List D := [.v (.string (tx (l.getD i [])))]
abbrev txs (l : List (List UInt8)) : D := .l l.length (txsF l)
theorem c_strings_Join (l : List (List UInt8)) (sep : List UInt8) (hl : l.length ≤ 140737488355328) (hb : (Lib.join l sep).length ≤ 140737488355328) : FnOK Tryd.prog 37 [.d (txs l), dT sep] (rT (Lib.join l sep)) :=
  FnOK.of_val Tryd.func37 (by kernel_rfl) (by kernel_rfl) fun W F vs hF hG hlen hv => by
    obtain ⟨a, b, rfl⟩ := vs2 hlen
    have hb' : b = .string (tx sep) := VR.atomv (hv 1 (by simp))
    subst hb'
    have ha : Rd W F (.l l.length (txsF l)) a := VR.data (hv 0 (by simp))
    generalize hfn : (txsF l) = f at ha
    generalize hn : l.length = n at ha
    cases ha with
    | nil f A c =>
      have : l = [] := List.length_eq_zero_iff.1 hn
      subst this
      refine (Tryd.strings_Join_none A c (tx sep) W).mono fun e W' ⟨he, hw⟩ => ⟨he, ?_⟩
      subst hw
      exact Below.refl _ _
    | l n f ad c sz vs h0 hc hI hs hz hll hvv h1 hr =>
      subst hfn hn
      obtain ⟨bk, o, sp⟩ := ad
      simp only at hs
      subst hs
      have hsz : sz = 1 := by rw [← hll 0 h0]; rfl
      subst hsz
      have hcell : ∀ (j : Nat) x, (l.map tx)[j]? = some x → W.cell? ⟨bk, o + j, none⟩ = some (.string x) := fun j x hx => by
        have hj : j < l.length := by
          rcases Nat.lt_or_ge j l.length with h | h
          · exact h
          · rw [List.getElem?_eq_none (by simpa using h)] at hx; cases hx
        have h2 := hvv j 0 hj (by omega)
        have h3 := hr j 0 hj (by omega)
        have h4 : vs j 0 = .string (tx (l.getD j [])) := by
          have h5 : Rd W F (.v (.string (tx (l.getD j [])))) (vs j 0) := h3
          generalize vs j 0 = z at h5
          cases h5
          rfl
        rw [h4, add_mk, Nat.mul_one, Nat.add_zero] at h2
        rw [h2]
        simp only [List.getElem?_map, List.getElem?_eq_getElem hj, Option.map_some, Option.some.injEq] at hx
        rw [← hx, getD_at [] hj]
      have hmm : (l.map tx).map (·.data.toList) = l := by
        rw [List.map_map]
        conv => rhs; rw [← List.map_id l]
        refine List.map_congr_left fun x _ => ?_
        simp [tx_list]
      have hJ := Tryd.strings_Join bk o c (l.map tx) (tx sep) W hcell (hF _ hI) (by simpa using hl) (by simpa using hc) (by rw [hmm, tx_list]; exact hb)
      rw [hmm, tx_list, List.length_map] at hJ
      exact hJ
end Go.Proofs.YtfcekiehcchebaaDoor.L

/- Numbers as texts, lines: contracts. -/
set_option linter.unusedVariables false
set_option linter.unusedSimpArgs false
set_option maxRecDepth 100000
namespace Go.Proofs.YtfcekiehcchebaaDoor.L
open Go.RowKit
theorem dd_eq (u : Nat) : Lib.decDigits u = if u < 10 then [UInt8.ofNat (48 + u)] else Lib.decDigits (u / 10) ++ [UInt8.ofNat (48 + u % 10)] := by
  rw [Lib.decDigits]
  split <;> rfl
theorem dd_len (u : Nat) : 1 ≤ (Lib.decDigits u).length ∧ (Lib.decDigits u).length ≤ u + 1 := by
  induction u using Nat.strongRecOn with
  | ind u ih =>
    rw [dd_eq]
    split
    · simp
    · have := ih (u / 10) (by omega)
      simp only [List.length_append, List.length_cons, List.length_nil]
      omega
theorem itoa_pos {n : Int} (h : 0 ≤ n) : Lib.itoa n = Lib.decDigits n.toNat := by
  unfold Lib.itoa
  rw [if_neg (by omega)]
theorem c_impl_decimal (n : Int) (h0 : 0 ≤ n) (h1 : n ≤ 9223372036854775807) : FnOK Tryd.prog 22 [di n] (rT (Lib.decDigits n.toNat)) := by
  have c1 := c_strconv_FormatInt n (by omega) h1
  rw [itoa_pos h0] at c1
  refine fn_of lv22 Tryd.func22 rfl rfl (by kernel_rfl) rfl ?_
  refine .inl ⟨_, _, rfl, c1, rfl, ?_⟩
  exact ⟨⟨rfl, trivial⟩, rfl⟩
theorem c_impl_line (l : List (List UInt8)) (hl : l.length ≤ 140737488355328) (hb : (Lib.join l [32]).length ≤ 140737488355328) : FnOK Tryd.prog 21 [.d (txs l)] (rT (Lib.join l [32] ++ [10])) := by
  have c1 := c_strings_Join l [32] hl hb
  have e := tx_app (Lib.join l [32]) [10]
  have hz : (((tx (Lib.join l [32])).size + (tx [10]).size : Nat) : Int) ≤ 9223372036854775807 := by
    rw [tx_size, tx_size]
    simp only [List.length_cons, List.length_nil]
    omega
  refine fn_of lv21 Tryd.func21 rfl rfl (by kernel_rfl) rfl ?_
  refine .inl ⟨_, _, rfl, c1, rfl, ?_⟩
  refine ask_intro hz ?_
  exact ⟨⟨congrArg Value.string e, trivial⟩, rfl⟩
theorem strT : StrT Tryd.prog 62 9 := ⟨5, by kernel_rfl, by kernel_rfl, by kernel_rfl⟩
theorem bytes1 (n : Int) : bytesS ((List.range 1).map fun i => byteN ((fun i => ([[D.v (.int .u8 n)]] : List (List D)).getD i []) i)) = tx [UInt8.ofNat n.toNat] := by
  show ByteArray.push ByteArray.empty (UInt8.ofNat n.toNat) = tx [UInt8.ofNat n.toNat]
  rfl
theorem wrap_u8i (n : Int) (h1 : 0 ≤ n) (h2 : n < 256) : IntKind.u8.wrap n = n := by rw [IntKind.wrap_u8]; omega
set_option maxHeartbeats 800000 in
theorem c_spec_l2Digits (u : Nat) : ∀ n : Int, n = (u : Int) → n ≤ 9223372036854775000 → FnOK Tryd.prog 18 [di n] (rT (Lib.decDigits u)) := by
  induction u using Nat.strongRecOn with
  | ind u ih =>
    intro n hn hb
    have hdl := dd_len u
    obtain ⟨r, hr⟩ : ∃ r, r = Lib.decDigits u := ⟨_, rfl⟩
    rw [← hr]
    rw [dd_eq] at hr
    by_cases h : u < 10
    · rw [if_pos h] at hr
      have e1 : IntKind.u8.wrap (IntKind.i64.wrap (48 + n)) = 48 + n := by rw [wrap_i64 _ (by omega) (by omega), wrap_u8i _ (by omega) (by omega)]
      have e2 : (48 + n).toNat = 48 + u := by omega
      have e3 : bytesS ((List.range 1).map fun i => byteN ((fun i => ([[D.v (.int .u8 (IntKind.u8.wrap (IntKind.i64.wrap (48 + n))))]] : List (List D)).getD i []) i)) = tx r := by rw [bytes1, e1, e2, hr]
      refine fn_of lv18 Tryd.func18 rfl rfl (by kernel_rfl) rfl ?_
      refine bsplit_of_true (decide_eq_true (by omega)) ?_
      refine ask_intro ⟨strT, by omega, fun i hi => ?_⟩ ?_
      · obtain rfl : i = 0 := by omega
        rfl
      exact ⟨⟨congrArg Value.string e3, trivial⟩, rfl⟩
    · rw [if_neg h] at hr
      have d1 : IntKind.i64.wrap (n.tdiv 10) = ((u / 10 : Nat) : Int) := by
        rw [Int.tdiv_eq_ediv_of_nonneg (by omega), wrap_i64 _ (by omega) (by omega)]; omega
      have d2 : n.tmod 10 = ((u % 10 : Nat) : Int) := by
        rw [Int.tmod_eq_emod_of_nonneg (by omega)]; omega
      have e1 : IntKind.u8.wrap (IntKind.i64.wrap (48 + n.tmod 10)) = 48 + ((u % 10 : Nat) : Int) := by rw [d2, wrap_i64 _ (by omega) (by omega), wrap_u8i _ (by omega) (by omega)]
      have e2 : (48 + ((u % 10 : Nat) : Int)).toNat = 48 + u % 10 := by omega
      have e3 : bytesS ((List.range 1).map fun i => byteN ((fun i => ([[D.v (.int .u8 (IntKind.u8.wrap (IntKind.i64.wrap (48 + n.tmod 10))))]] : List (List D)).getD i []) i)) = tx [UInt8.ofNat (48 + u % 10)] := by rw [bytes1, e1, e2]
      have ci := ih (u / 10) (by omega) (IntKind.i64.wrap (n.tdiv 10)) d1 (by omega)
      have hl2 := dd_len (u / 10)
      have e4 : tx (Lib.decDigits (u / 10)) ++ bytesS ((List.range 1).map fun i => byteN ((fun i => ([[D.v (.int .u8 (IntKind.u8.wrap (IntKind.i64.wrap (48 + n.tmod 10))))]] : List (List D)).getD i []) i)) = tx r := by rw [e3, tx_app, hr]
      have hz : (((tx (Lib.decDigits (u / 10))).size + (bytesS ((List.range 1).map fun i => byteN ((fun i => ([[D.v (.int .u8 (IntKind.u8.wrap (IntKind.i64.wrap (48 + n.tmod 10))))]] : List (List D)).getD i []) i))).size : Nat) : Int) ≤ 9223372036854775807 := by
        rw [e3, tx_size, tx_size]
        simp only [List.length_cons, List.length_nil]
        omega
      refine fn_of lv18 Tryd.func18 rfl rfl (by kernel_rfl) rfl ?_
      refine bsplit_of_false (decide_eq_false (by omega)) ?_
      refine ask_intro (by decide) ?_
      refine .inl ⟨_, _, rfl, ci, rfl, ?_⟩
      refine ask_intro (by decide) ?_
      refine ask_intro ⟨strT, by omega, fun i hi => ?_⟩ ?_
      · obtain rfl : i = 0 := by omega
        rfl
      refine ask_intro hz ?_
      refine chk_intro (by kernel_rfl) ?_
      exact ⟨⟨congrArg Value.string e4, trivial⟩, rfl⟩
end Go.Proofs.YtfcekiehcchebaaDoor.L

/- A line of a word and numbers: contracts. -/
set_option linter.unusedVariables false
set_option linter.unusedSimpArgs false
set_option maxRecDepth 100000
namespace Go.Proofs.YtfcekiehcchebaaDoor.L
open Go.RowKit
def decT (l : List Int) : List (List UInt8) := l.map fun w => Lib.decDigits w.toNat
abbrev few32 (l : List Int) : Prop := ∀ x ∈ l, 0 ≤ x ∧ x ≤ 4294967295
abbrev oTxs (l : List (List UInt8)) : RC := .own 9 1 l.length (txsF l)
abbrev txE (l : List (List UInt8)) : Ent := .row 9 1 l.length (txsF l)
theorem decT_snoc (l : List Int) (i : Nat) (h : i < l.length) : decT (l.take (i + 1)) = decT (l.take i) ++ [Lib.decDigits (l.getD i 0).toNat] := by
  rw [List.take_succ_eq_append_getElem h, getD_at 0 h]
  unfold decT
  rw [List.map_append, List.map_cons, List.map_nil]
theorem getD_few {l : List Int} (h : few32 l) {i : Nat} (hi : i < l.length) : 0 ≤ l.getD i 0 ∧ l.getD i 0 ≤ 4294967295 := h _ (by
  rw [getD_at 0 hi]
  exact List.getElem_mem _)
theorem upto_txs (a b : List (List UInt8)) (g : Nat → List D) (hg : ∀ j, j < b.length → g j = txsF b j) (i : Nat) (h : i < a.length + b.length) : upto a.length (txsF a) g i = txsF (a ++ b) i := by
  unfold upto
  by_cases hi : i < a.length
  · rw [if_pos hi]
    show [D.v (.string (tx (a.getD i [])))] = _
    simp [List.getD, List.getElem?_append, hi]
  · rw [if_neg hi, hg _ (by omega)]
    show [D.v (.string (tx (b.getD (i - a.length) [])))] = _
    simp [List.getD, List.getElem?_append, hi]
theorem upto_tx1 (w : List UInt8) (b : List (List UInt8)) : ∀ q, upto 1 (fun i => ([[D.v (.string (tx w))]] : List (List D)).getD i []) (txsF b) q = txsF (w :: b) q
  | 0 => rfl
  | q + 1 => by simp [upto]
theorem c_impl_decimals (l : List Int) (hn : l.length ≤ 1000) (hf : few32 l) : FnOK Tryd.prog 56 [.d (ints l)] (.r (.one (oTxs (decT l)))) := by
  refine fn_of lv56 Tryd.func56 rfl rfl (by kernel_rfl) rfl ?_
  refine ⟨{ i : Nat // i ≤ l.length }, fun i => ⟨frL [(3, .row 96), (7, .d (ints l)), (8, di l.length), (9, di i.1)], hpL [(96, txE (decT (l.take i.1)))], 97, 0⟩, fun i => l.length - i.1, ⟨0, by omega⟩,
    le_of [(96, 4096)] rfl rfl rfl rfl (tellHp_row rfl rfl (by simp [decT]) (fun j hj => absurd hj (by omega)) tellHp_nil) (tellFr_row rfl rfl (tellFr_d rfl (DLe.refl _) (tellFr_v rfl rfl (tellFr_v rfl rfl trivial)))), ?_⟩
  rintro ⟨i, hi⟩
  by_cases hb : i < l.length
  · have hx := getD_few hf hb
    have c1 := c_impl_decimal (l.getD i 0) hx.1 (by omega)
    have hwi := congrArg (Value.int .i64) (wrap1 hb (by omega))
    have hsn := decT_snoc l i hb
    have hlen : (decT (l.take i)).length ≤ 1000 := by unfold decT; rw [List.length_map, List.length_take]; omega
    refine bsplit_of_true (decide_eq_true (show (i : Int) < (l.length : Int) by omega)) ?_
    refine ask_intro ⟨by omega, by show (i : Int) < (l.length : Int); omega, rfl⟩ ?_
    refine .inl ⟨_, _, rfl, c1, rfl, ?_⟩
    refine ask_intro ⟨by show ((decT (l.take i)).length + 1) * 16 ≤ 140737488355328; omega, by show (decT (l.take i)).length + 1 ≤ 9223372036854775807; omega, fun j hj => by obtain rfl : j = 0 := (by omega); rfl⟩ ?_
    refine ⟨⟨i + 1, by omega⟩, le_of [(96, 8417)] rfl rfl rfl rfl (tellHp_row rfl rfl ?_ (fun j hj => ?_) tellHp_nil) (tellFr_row rfl rfl (tellFr_d rfl (DLe.refl _) (tellFr_v rfl rfl (tellFr_v rfl hwi trivial)))), by show l.length - (i + 1) < l.length - i; omega⟩
    · show (decT (l.take i)).length + 1 = (decT (l.take (i + 1))).length
      rw [hsn, List.length_append, List.length_cons, List.length_nil]
    · have hj : j < (decT (l.take i)).length + 1 := hj
      rw [hsn]
      exact upto_txs _ [Lib.decDigits (l.getD i 0).toNat] _ (fun q hq => by obtain rfl : q = 0 := (by simpa using hq); rfl) j hj
  · obtain rfl : i = l.length := by omega
    refine bsplit_of_false (decide_eq_false (show ¬ (l.length : Int) < (l.length : Int) by omega)) ?_
    refine ⟨⟨⟨rfl, rfl, ?_, fun j hj => ⟨?_, rfl⟩⟩, trivial⟩, rfl⟩
    · show (decT (l.take l.length)).length = _
      rw [List.take_length]
    · show txsF (decT (l.take l.length)) j = _
      rw [List.take_length]
/-- a line: a word and numbers -/
def lineB (w : List UInt8) (l : List Int) : List UInt8 := w ++ Lib.joinTail [32] (decT l)
theorem lineB_snoc (w : List UInt8) (l : List Int) (i : Nat) (h : i < l.length) : lineB w (l.take (i + 1)) = lineB w (l.take i) ++ [32] ++ Lib.decDigits (l.getD i 0).toNat := by
  unfold lineB
  rw [decT_snoc l i h]
  simp [Lib.joinTail, List.append_assoc]
theorem lineB_len (w : List UInt8) : ∀ {l : List Int}, few32 l → (lineB w l).length ≤ w.length + 4294967297 * l.length
  | [], _ => by simp [lineB, decT, Lib.joinTail]
  | x :: l, h => by
    have h1 := h x (.head _)
    have h2 := lineB_len w (l := l) (fun y hy => h y (.tail _ hy))
    have h3 := dd_len x.toNat
    unfold lineB decT Lib.joinTail at h2 ⊢
    simp only [List.map_cons, List.flatten_cons, List.length_append, List.length_cons, List.length_nil] at h2 ⊢
    omega
def lineT (w : List UInt8) (l : List Int) : List UInt8 := lineB w l ++ [10]
theorem lineT_len (w : List UInt8) {l : List Int} (h : few32 l) : (lineT w l).length ≤ w.length + 4294967297 * l.length + 1 := by
  have := lineB_len w h
  unfold lineT
  rw [List.length_append, List.length_cons, List.length_nil]
  omega
theorem c_impl_numbered (w : List UInt8) (l : List Int) (hw : w.length ≤ 100) (hn : l.length ≤ 1000) (hf : few32 l) : FnOK Tryd.prog 47 [dT w, .d (ints l)] (rT (lineT w l)) := by
  have c1 := c_impl_decimals l hn hf
  have hdl : (decT l).length = l.length := by unfold decT; rw [List.length_map]
  have hj : Lib.join (w :: decT l) [32] = lineB w l := Lib.join_cons _ _ _
  have hlb := lineB_len w hf
  have c2 := c_impl_line (w :: decT l) (by rw [List.length_cons]; omega) (by rw [hj]; omega)
  rw [hj] at c2
  refine fn_of lv47 Tryd.func47 rfl rfl (by kernel_rfl) rfl ?_
  refine .inl ⟨_, _, rfl, c1, rfl, ?_⟩
  refine ask_intro ⟨by show (1 + (decT l).length) * 16 ≤ 140737488355328; omega, by show 1 + (decT l).length ≤ 9223372036854775807; omega, fun j hj => rfl⟩ ?_
  refine .inl ⟨_, _, rfl, c2.weak ⟨LVLe.d (DLe.l (by rw [List.length_cons]; omega) (fun q hq => upto_tx1 w (decT l) q)), trivial⟩, rfl, ?_⟩
  exact ⟨⟨rfl, trivial⟩, rfl⟩
theorem c_spec_l6Line (w : List UInt8) (l : List Int) (hw : w.length ≤ 100) (hn : l.length ≤ 1000) (hf : few32 l) : FnOK Tryd.prog 41 [dT w, .d (ints l)] (rT (lineT w l)) := by
  have hlb := lineB_len w hf
  refine fn_of lv41 Tryd.func41 rfl rfl (by kernel_rfl) rfl ?_
  refine ⟨{ i : Nat // i ≤ l.length }, fun i => ⟨frL [(0, dT (lineB w (l.take i.1))), (1, .d (ints l)), (5, di i.1)], hpL [], 97, 0⟩, fun i => l.length - i.1, ⟨0, by omega⟩,
    le_of [] rfl rfl rfl rfl tellHp_nil (tellFr_v rfl (congrArg (fun z => Value.string (tx z)) (show w = lineB w [] by simp [lineB, decT, Lib.joinTail])) (tellFr_d rfl (DLe.refl _) (tellFr_v rfl rfl trivial))), ?_⟩
  rintro ⟨i, hi⟩
  have hft : few32 (l.take i) := fun x hx => hf x (List.mem_of_mem_take hx)
  have hlt := lineB_len w hft
  have hll : (l.take i).length ≤ 1000 := by rw [List.length_take]; omega
  by_cases hb : i < l.length
  · have hx := getD_few hf hb
    have hd := dd_len (l.getD i 0).toNat
    have c1 := c_spec_l2Digits (l.getD i 0).toNat (l.getD i 0) (by omega) (by omega)
    have hwi := congrArg (Value.int .i64) (wrap1 hb (by omega))
    have hsn := lineB_snoc w l i hb
    have e1 := tx_app (lineB w (l.take i)) [32]
    have e2 : tx (lineB w (l.take i)) ++ tx [32] ++ tx (Lib.decDigits (l.getD i 0).toNat) = tx (lineB w (l.take (i + 1))) := by rw [e1, tx_app, hsn]
    have hz1 : (((tx (lineB w (l.take i))).size + (tx [32]).size : Nat) : Int) ≤ 9223372036854775807 := by
      rw [tx_size, tx_size]
      simp only [List.length_cons, List.length_nil]
      omega
    have hz2 : (((tx (lineB w (l.take i)) ++ tx [32]).size + (tx (Lib.decDigits (l.getD i 0).toNat)).size : Nat) : Int) ≤ 9223372036854775807 := by
      rw [e1, tx_size, tx_size, List.length_append]
      simp only [List.length_cons, List.length_nil]
      omega
    refine bsplit_of_true (decide_eq_true (show (i : Int) < (l.length : Int) by omega)) ?_
    refine ask_intro hz1 ?_
    refine ask_intro ⟨by omega, by show (i : Int) < (l.length : Int); omega, rfl⟩ ?_
    refine .inl ⟨_, _, rfl, c1, rfl, ?_⟩
    refine ask_intro hz2 ?_
    exact ⟨⟨i + 1, by omega⟩, le_of [] rfl rfl rfl rfl tellHp_nil (tellFr_v rfl (congrArg Value.string e2) (tellFr_d rfl (DLe.refl _) (tellFr_v rfl hwi trivial))), by show l.length - (i + 1) < l.length - i; omega⟩
  · obtain rfl : i = l.length := by omega
    have e3 : tx (lineB w (l.take l.length)) ++ tx [10] = tx (lineT w l) := by rw [List.take_length, tx_app]; rfl
    have hz3 : (((tx (lineB w (l.take l.length))).size + (tx [10]).size : Nat) : Int) ≤ 9223372036854775807 := by
      rw [tx_size, tx_size]
      simp only [List.length_cons, List.length_nil]
      omega
    refine bsplit_of_false (decide_eq_false (show ¬ (l.length : Int) < (l.length : Int) by omega)) ?_
    refine ask_intro hz3 ?_
    exact ⟨⟨congrArg Value.string e3, trivial⟩, rfl⟩
end Go.Proofs.YtfcekiehcchebaaDoor.L

/- What the functions compute that draw a machine: contracts. -/
set_option linter.unusedVariables false
set_option linter.unusedSimpArgs false
set_option maxRecDepth 100000
namespace Go.Proofs.YtfcekiehcchebaaDoor.L
open Go.RowKit
structure HartM.drawn (m : HartM) : Prop where
  regs : m.regs.length = 16
  csr : m.csr.length = 11
  inp : m.inp.length ≤ 2
  out : m.out.length ≤ 40
abbrev hartN : List LV := [dv (.slice none 0 0), di 0, dv (.slice none 0 0), dv (.bool false), dv (.bool false), dv (.bool false), di 0, dv (.slice none 0 0), dv (.slice none 0 0)]
theorem setM_drawn {m : HartM} (h : m.drawn) (k w : Int) : (setM m k w).drawn := by
  obtain ⟨h1, h2, h3, h4⟩ := h
  unfold setM setCsrL
  (repeat' split) <;> exact ⟨by simpa using h1, by simpa using h2, by simpa using h3, by simpa using h4⟩
end Go.Proofs.YtfcekiehcchebaaDoor.L

/- What the functions compute that draw a machine with something bent: contracts. -/
set_option linter.unusedVariables false
set_option linter.unusedSimpArgs false
set_option maxRecDepth 100000
namespace Go.Proofs.YtfcekiehcchebaaDoor.L
open Go.RowKit
theorem drop_intsB (l : List Int) (k i : Nat) : intsF l (k + i) = intsF (l.drop k) i := by
  show [D.v (.int .i64 (l.getD (k + i) 0))] = [D.v (.int .i64 ((l.drop k).getD i 0))]
  simp [List.getD, List.getElem?_drop]
theorem HartM.drawn.small {m : HartM} (h : m.drawn) : m.small := by
  obtain ⟨h1, h2, h3, h4⟩ := h
  exact ⟨by omega, by omega, by omega, by omega⟩
end Go.Proofs.YtfcekiehcchebaaDoor.L

/- What the functions compute that draw a machine and what is done to it: contracts. -/
set_option linter.unusedVariables false
set_option linter.unusedSimpArgs false
set_option maxRecDepth 100000
namespace Go.Proofs.YtfcekiehcchebaaDoor.L
open Go.RowKit
abbrev hartSh (m : HartM) : RV1 := .agg [.sh (ints m.regs), .v (.int .i64 m.pc), .sh (ints m.csr), .v (.bool m.halted), .v (.bool m.waiting), .v (.bool m.rung), .v (.int .i64 m.done), .sh (ints m.inp), .sh (ints m.out)]
end Go.Proofs.YtfcekiehcchebaaDoor.L

/- Plain facts on machines: what it means that nothing is wrong with one, and what stays so when a number is set. -/
set_option linter.unusedVariables false
set_option linter.unusedSimpArgs false
set_option maxRecDepth 100000
namespace Go.Proofs.YtfcekiehcchebaaDoor.L
open Go.RowKit
structure HartM.right (m : HartM) : Prop where
  regs : m.regs.length = 16
  csr : m.csr.length = 11
  r0 : m.regs.getD 0 0 = 0
  wr : ∀ x ∈ m.regs, isW x = true
  wp : isW m.pc = true
  wc : ∀ x ∈ m.csr, isW x = true
  wi : ∀ x ∈ m.inp, isW x = true
  wo : ∀ x ∈ m.out, isW x = true
  inp : m.inp.length ≤ 40
  out : m.out.length ≤ 40
  done : inR m.done 0 1000000000 = true
  c0 : m.csr.getD 0 0 ≤ 3
  c7 : m.csr.getD 7 0 ≤ 7
  c10 : m.csr.getD 10 0 ≤ 8
  c6 : m.csr.getD 6 0 = 0
  c8 : m.csr.getD 8 0 = 0
theorem bif_zero {b : Bool} {x : Int} {n : Int} (h : (bif b then n else x) = 0) (hn : n ≠ 0) : b = false ∧ x = 0 := by cases b <;> simp_all
theorem hFault_right {m : HartM} (h : hFault m = 0) : m.right := by
  unfold hFault at h
  obtain ⟨h1, h⟩ := bif_zero h (by decide)
  obtain ⟨h2, h⟩ := bif_zero h (by decide)
  obtain ⟨h3, h⟩ := bif_zero h (by decide)
  obtain ⟨h4, h⟩ := bif_zero h (by decide)
  obtain ⟨h5, h⟩ := bif_zero h (by decide)
  simp only [Bool.or_eq_false_iff, bne_eq_false_iff_eq, Bool.not_eq_eq_eq_not, Bool.not_false, decide_eq_false_iff_not, List.all_eq_true] at h1 h2 h3 h4 h5
  exact ⟨by omega, by omega, h1.2.2, h2.1, h2.2.1, h2.2.2.1, h2.2.2.2.1, h2.2.2.2.2, by omega, by omega, h4, by omega, by omega, by omega, h5.2.2.2.1, h5.2.2.2.2⟩
theorem right_hFault {m : HartM} (h : m.right) : hFault m = 0 := by
  obtain ⟨h1, h2, h3, h4, h5, h6, h7, h8, h9, h10, h11, h12, h13, h14, h15, h16⟩ := h
  have a4 : m.regs.all isW = true := List.all_eq_true.2 h4
  have a6 : m.csr.all isW = true := List.all_eq_true.2 h6
  have a7 : m.inp.all isW = true := List.all_eq_true.2 h7
  have a8 : m.out.all isW = true := List.all_eq_true.2 h8
  have b1 : decide ((m.inp.length : Int) > 40) = false := by simp; omega
  have b2 : decide ((m.out.length : Int) > 40) = false := by simp; omega
  have b3 : decide (m.csr.getD 0 0 > 3) = false := by simp only [decide_eq_false_iff_not]; omega
  have b4 : decide (m.csr.getD 7 0 > 7) = false := by simp only [decide_eq_false_iff_not]; omega
  have b5 : decide (m.csr.getD 10 0 > 8) = false := by simp only [decide_eq_false_iff_not]; omega
  unfold hFault
  rw [h1, h2, h3, a4, h5, a6, a7, a8, b1, b2, h11, b3, b4, b5, h15, h16]
  rfl
theorem set_get (l : List Int) (i j : Nat) (v : Int) (hi : i < l.length) : (l.set i v).getD j 0 = if j = i then v else l.getD j 0 := by
  by_cases e : j = i
  · subst e; simp [List.getD, hi]
  · rw [if_neg e]; simp [List.getD, List.getElem?_set_ne (Ne.symm e)]
theorem mem_set_all {l : List Int} {i : Nat} {v : Int} {p : Int → Bool} (h : ∀ x ∈ l, p x = true) (hv : p v = true) : ∀ x ∈ l.set i v, p x = true := fun x hx => by
  rcases List.mem_or_eq_of_mem_set hx with h1 | rfl
  · exact h x h1
  · exact hv
theorem isW_iff {n : Int} : isW n = true ↔ 0 ≤ n ∧ n ≤ 4294967295 := by simp [isW, inR]
theorem setCsrL_right {m : HartM} (h : m.right) {k v : Int} (hk : 0 ≤ k) (hk2 : k ≤ 10) (hv : 0 ≤ v) (hv2 : v ≤ 4294967295) (a : k = 0 → v ≤ 3) (b : k = 7 → v ≤ 7) (c : k = 10 → v ≤ 8) (d : k ≠ 6) (e : k ≠ 8) : (setCsrL m k v).right := by
  obtain ⟨h1, h2, h3, h4, h5, h6, h7, h8, h9, h10, h11, h12, h13, h14, h15, h16⟩ := h
  have hi : k.toNat < m.csr.length := by omega
  unfold setCsrL
  refine ⟨h1, by simpa using h2, h3, h4, h5, mem_set_all h6 (isW_iff.2 ⟨hv, hv2⟩), h7, h8, h9, h10, h11, ?_, ?_, ?_, ?_, ?_⟩
  all_goals
    dsimp only
    rw [set_get _ _ _ _ hi]
    split <;> omega
theorem tmod_w (w n : Int) (hn : 0 < n) : 0 ≤ Int.tmod (wrapW w) n ∧ Int.tmod (wrapW w) n < n := tmod_in (wrapW_le w).1 hn
theorem setM_right {m : HartM} (h : m.right) (k w : Int) (hk : 0 ≤ k) (hk2 : k ≤ 10) : (setM m k w).right := by
  have a1 := wrapW_le w
  have a2 := tmod_w w 4 (by omega)
  have a3 := tmod_w w 8 (by omega)
  unfold setM
  split
  · exact setCsrL_right h hk hk2 (by omega) (by omega) (by omega) (by omega) (by omega) (by omega) (by omega)
  split
  · exact setCsrL_right h hk hk2 (by omega) (by omega) (by omega) (by omega) (by omega) (by omega) (by omega)
  split
  · exact setCsrL_right h hk hk2 (by split <;> omega) (by split <;> omega) (by omega) (by omega) (by intro _; split <;> omega) (by omega) (by omega)
  split
  · obtain ⟨h1, h2, h3, h4, h5, h6, h7, h8, h9, h10, h11, h12, h13, h14, h15, h16⟩ := h
    exact ⟨h1, h2, h3, h4, h5, h6, h7, h8, h9, h10, h11, h12, h13, h14, h15, h16⟩
  split
  · exact h
  · exact setCsrL_right h hk hk2 (by omega) (by omega) (by omega) (by omega) (by omega) (by omega) (by omega)
theorem setM_idem (m : HartM) (k w : Int) : setM (setM m k w) k w = setM m k w := by
  have set2 : ∀ v : Int, setCsrL (setCsrL m k v) k v = setCsrL m k v := fun v => by unfold setCsrL; simp [List.set_set]
  by_cases h0 : k = 0
  · simp only [setM, if_pos h0]; exact set2 _
  by_cases h7 : k = 7
  · simp only [setM, if_neg h0, if_pos h7]; exact set2 _
  by_cases h10 : k = 10
  · simp only [setM, if_neg h0, if_neg h7, if_pos h10]; exact set2 _
  by_cases h6 : k = 6
  · simp only [setM, if_neg h0, if_neg h7, if_neg h10, if_pos h6]
    cases m.rung <;> simp
  by_cases h8 : k = 8
  · simp only [setM, if_neg h0, if_neg h7, if_neg h10, if_neg h6, if_pos h8]
  · simp only [setM, if_neg h0, if_neg h7, if_neg h10, if_neg h6, if_neg h8]; exact set2 _
theorem setM_csr (m : HartM) (k w : Int) (hm : m.csr.length = 11) (hk : 0 ≤ k) (hk2 : k ≤ 10) (i : Int) (hi : 0 ≤ i) (hne : i ≠ k) : (setM m k w).csr.getD i.toNat 0 = m.csr.getD i.toNat 0 ∧ (setM m k w).done = m.done := by
  have st : ∀ v : Int, (setCsrL m k v).csr.getD i.toNat 0 = m.csr.getD i.toNat 0 ∧ (setCsrL m k v).done = m.done := fun v => by
    refine ⟨?_, rfl⟩
    show (m.csr.set k.toNat v).getD i.toNat 0 = _
    rw [set_get _ _ _ _ (by omega), if_neg (by omega)]
  unfold setM
  split
  · exact st _
  split
  · exact st _
  split
  · exact st _
  split
  · exact ⟨rfl, rfl⟩
  split
  · exact ⟨rfl, rfl⟩
  · exact st _
theorem getCsr_set (m : HartM) (k w : Int) (h : m.right) (hk : 0 ≤ k) (hk2 : k ≤ 10) (i : Int) (hi : 0 ≤ i) (hi2 : i ≤ 10) (hne : i ≠ k) (h6 : i ≠ 6) : getCsr (setM m k w) i = getCsr m i := by
  obtain ⟨e1, e2⟩ := setM_csr m k w h.csr hk hk2 i hi hne
  unfold getCsr csrOf
  rw [right_hFault h, right_hFault (setM_right h k w hk hk2), e1, e2, if_neg h6, if_neg h6]
theorem getCsr_right {m : HartM} (h : m.right) (i : Int) (hi : 0 ≤ i) (hi2 : i ≤ 10) : getCsr m i = (0, csrOf m i) := by
  unfold getCsr
  rw [if_pos (right_hFault h), if_pos (inR_iff.2 ⟨hi, hi2⟩)]
theorem setM_5 (m : HartM) (w : Int) (h : m.csr.length = 11) : csrOf (setM m 5 w) 5 = wrapW w := by
  show (if (5 : Int) = 6 then _ else if (5 : Int) = 8 then _ else _) = _
  rw [if_neg (by decide), if_neg (by decide)]
  show (m.csr.set 5 (wrapW w)).getD 5 0 = _
  rw [set_get _ _ _ _ (by omega), if_pos rfl]
theorem setM_8 (m : HartM) (w : Int) : csrOf (setM m 8 w) 8 = m.done := rfl
end Go.Proofs.YtfcekiehcchebaaDoor.L

/- What a machine wrote out, as a text: contracts. -/
set_option linter.unusedVariables false
set_option linter.unusedSimpArgs false
set_option maxRecDepth 100000
namespace Go.Proofs.YtfcekiehcchebaaDoor.L
open Go.RowKit
abbrev trR (p : Int × List UInt8) : RV1 := .agg [.v (.int .i64 p.1), .v (.string (tx p.2))]
abbrev trLV (p : Int × List UInt8) : LV := .agg [di p.1, dT p.2]
theorem c_laws_eqTextResult (p : Int × List UInt8) : FnOK Tryd.prog 9 [trLV p, trLV p] (rb true) := by
  refine fn_of lv9 Tryd.func9 rfl rfl (by kernel_rfl) rfl ?_
  refine bsplit_of_false (show (p.1 != p.1) = false by simp) ?_
  refine bsplit_of_false (show (!((tx p.2).toList == (tx p.2).toList)) = false by simp) ?_
  exact ⟨⟨rfl, trivial⟩, rfl⟩
def outT (l : List Int) : List UInt8 := l.flatMap fun w => Lib.decDigits w.toNat ++ [10]
theorem outT_len : ∀ {l : List Int}, (∀ x ∈ l, isW x = true) → (outT l).length ≤ 4294967297 * l.length
  | [], _ => by simp [outT]
  | w :: l, h => by
    have h1 := inR_iff.1 (h w (.head _))
    have h2 := outT_len (l := l) (fun x hx => h x (.tail _ hx))
    have h3 := dd_len w.toNat
    unfold outT at h2 ⊢
    rw [List.flatMap_cons, List.length_append, List.length_append]
    simp only [List.length_cons, List.length_nil]
    omega
theorem outT_snoc (l : List Int) (i : Nat) (h : i < l.length) : outT (l.take (i + 1)) = outT (l.take i) ++ (Lib.decDigits (l.getD i 0).toNat ++ [10]) := by
  rw [List.take_succ_eq_append_getElem h, getD_at 0 h]
  unfold outT
  rw [List.flatMap_append, List.flatMap_cons, List.flatMap_nil, List.append_nil]
def outText (m : HartM) : Int × List UInt8 := if hFault m = 0 then (0, outT m.out) else (hFault m, [])
set_option maxHeartbeats 800000 in
theorem c_impl_OutText (m : HartM) (hs : m.small) : FnOK Tryd.prog 8 [hartLV m] (.r (trR (outText m))) := by
  have c1 := c_impl_HartFault m hs
  obtain ⟨r, hr⟩ : ∃ r, r = outText m := ⟨_, rfl⟩
  rw [← hr]
  unfold outText at hr
  by_cases h : hFault m = 0
  rotate_left
  · rw [if_neg h] at hr
    subst hr
    generalize hFault m = e at *
    refine fn_of lv8 Tryd.func8 rfl rfl (by kernel_rfl) rfl ?_
    refine .inl ⟨_, _, rfl, c1, rfl, ?_⟩
    refine bsplit_of_true (by simpa using h) ?_
    exact ⟨⟨rfl, rfl, trivial⟩, rfl⟩
  rw [if_pos h] at hr
  subst hr
  rw [h] at c1
  have hw := (hFault_right h).wo
  have ho := (hFault_right h).out
  refine fn_of lv8 Tryd.func8 rfl rfl (by kernel_rfl) rfl ?_
  refine .inl ⟨_, _, rfl, c1, rfl, ?_⟩
  repeat' (first | refine bsplit_true ?_ | refine bsplit_false ?_)
  refine ⟨{ i : Nat // i ≤ m.out.length }, fun i => ⟨frL [(2, .ptr 10 0), (4, dT (outT (m.out.take i.1))), (14, .d (ints m.out)), (15, di m.out.length), (16, di i.1)], hpL [(10, .box 27 [di 0, dT []])], 97, 0⟩, fun i => m.out.length - i.1, ⟨0, by omega⟩,
    le_of [(10, 32)] rfl rfl rfl rfl (tellHp_box rfl rfl ⟨rfl, rfl, trivial⟩ tellHp_nil) (tellFr_ptr rfl rfl (tellFr_v rfl rfl (tellFr_d rfl (DLe.refl _) (tellFr_v rfl rfl (tellFr_v rfl rfl trivial))))), ?_⟩
  rintro ⟨i, hi⟩
  by_cases h1 : i < m.out.length
  · have hwi := congrArg (Value.int .i64) (wrap1 h1 (by omega))
    have hx := inR_iff.1 (hw _ (show m.out.getD i 0 ∈ m.out by simp only [List.getD]; rw [List.getElem?_eq_getElem h1]; exact List.getElem_mem _))
    have hx1 : 0 ≤ m.out.getD i 0 := hx.1
    have hx2 : m.out.getD i 0 ≤ 4294967295 := hx.2
    have hd := dd_len (m.out.getD i 0).toNat
    have c2 := c_impl_decimal (m.out.getD i 0) hx1 (by omega)
    have hj : Lib.join [Lib.decDigits (m.out.getD i 0).toNat] [32] = Lib.decDigits (m.out.getD i 0).toNat := Lib.join_one _ _
    have c3 := c_impl_line [Lib.decDigits (m.out.getD i 0).toNat] (by simp) (by rw [hj]; omega)
    rw [hj] at c3
    have hsn := outT_snoc m.out i h1
    have hlt := outT_len (l := m.out.take i) (fun x hx => hw x (List.mem_of_mem_take hx))
    have hll : (m.out.take i).length ≤ 40 := by rw [List.length_take]; omega
    have hz : (((tx (outT (m.out.take i))).size + (tx (Lib.decDigits (m.out.getD i 0).toNat ++ [10])).size : Nat) : Int) ≤ 9223372036854775807 := by
      rw [tx_size, tx_size, List.length_append]
      simp only [List.length_cons, List.length_nil]
      omega
    have he : tx (outT (m.out.take i)) ++ tx (Lib.decDigits (m.out.getD i 0).toNat ++ [10]) = tx (outT (m.out.take (i + 1))) := by rw [tx_app, hsn]
    refine bsplit_of_true (decide_eq_true (show (i : Int) < (m.out.length : Int) by omega)) ?_
    refine ask_intro ⟨by omega, by show (i : Int) < (m.out.length : Int); omega, rfl⟩ ?_
    refine .inl ⟨_, _, rfl, c2, rfl, ?_⟩
    refine .inl ⟨_, _, rfl, c3.weak ⟨LVLe.d (DLe.l rfl (fun q hq => by obtain rfl : q = 0 := (by omega); rfl)), trivial⟩, rfl, ?_⟩
    refine ask_intro hz ?_
    exact ⟨⟨i + 1, by omega⟩, le_of [(10, 10)] rfl rfl rfl rfl (tellHp_box rfl rfl ⟨rfl, rfl, trivial⟩ tellHp_nil) (tellFr_ptr rfl rfl (tellFr_v rfl (congrArg Value.string he) (tellFr_d rfl (DLe.refl _) (tellFr_v rfl rfl (tellFr_v rfl hwi trivial))))), by show m.out.length - (i + 1) < m.out.length - i; omega⟩
  · obtain rfl : i = m.out.length := by omega
    refine bsplit_of_false (decide_eq_false (show ¬ (m.out.length : Int) < (m.out.length : Int) by omega)) ?_
    exact ⟨⟨rfl, congrArg Value.string (show tx (outT (m.out.take m.out.length)) = tx (outT m.out) by rw [List.take_length]), trivial⟩, rfl⟩
set_option maxHeartbeats 800000 in
theorem c_spec_OutText (m : HartM) (hs : m.small) : FnOK Tryd.prog 6 [hartLV m] (.r (trR (outText m))) := by
  have c1 := c_spec_l8Fault m hs
  obtain ⟨r, hr⟩ : ∃ r, r = outText m := ⟨_, rfl⟩
  rw [← hr]
  unfold outText at hr
  by_cases h : hFault m = 0
  rotate_left
  · rw [if_neg h] at hr
    subst hr
    generalize hFault m = e at *
    refine fn_of lv6 Tryd.func6 rfl rfl (by kernel_rfl) rfl ?_
    refine .inl ⟨_, _, rfl, c1, rfl, ?_⟩
    refine bsplit_of_true (by simpa using h) ?_
    exact ⟨⟨rfl, rfl, trivial⟩, rfl⟩
  rw [if_pos h] at hr
  subst hr
  rw [h] at c1
  have hw := (hFault_right h).wo
  have ho := (hFault_right h).out
  refine fn_of lv6 Tryd.func6 rfl rfl (by kernel_rfl) rfl ?_
  refine .inl ⟨_, _, rfl, c1, rfl, ?_⟩
  repeat' (first | refine bsplit_true ?_ | refine bsplit_false ?_)
  refine ⟨{ i : Nat // i ≤ m.out.length }, fun i => ⟨frL [(1, .ptr 11 0), (2, .ptr 10 0), (4, dT (outT (m.out.take i.1))), (5, di i.1)], hpL [(10, .box 27 [di 0, dT []]), (11, .box 29 [.d (ints m.regs), di m.pc, .d (ints m.csr), dv (.bool m.halted), dv (.bool m.waiting), dv (.bool m.rung), di m.done, .d (ints m.inp), .d (ints m.out)])], 97, 0⟩, fun i => m.out.length - i.1, ⟨0, by omega⟩,
    le_of [(10, 32), (11, 0)] rfl rfl rfl rfl (tellHp_box rfl rfl ⟨rfl, rfl, trivial⟩ (tellHp_box rfl rfl ⟨DLe.refl _, rfl, DLe.refl _, rfl, rfl, rfl, rfl, DLe.refl _, DLe.refl _, trivial⟩ tellHp_nil)) (tellFr_ptr rfl rfl (tellFr_ptr rfl rfl (tellFr_v rfl rfl (tellFr_v rfl rfl trivial)))), ?_⟩
  rintro ⟨i, hi⟩
  by_cases h1 : i < m.out.length
  · have hwi := congrArg (Value.int .i64) (wrap1 h1 (by omega))
    have hx := inR_iff.1 (hw _ (show m.out.getD i 0 ∈ m.out by simp only [List.getD]; rw [List.getElem?_eq_getElem h1]; exact List.getElem_mem _))
    have hx1 : 0 ≤ m.out.getD i 0 := hx.1
    have hx2 : m.out.getD i 0 ≤ 4294967295 := hx.2
    have hd := dd_len (m.out.getD i 0).toNat
    have c2 := c_spec_l2Digits (m.out.getD i 0).toNat (m.out.getD i 0) (by omega) (by omega)
    have hsn := outT_snoc m.out i h1
    have hlt := outT_len (l := m.out.take i) (fun x hx => hw x (List.mem_of_mem_take hx))
    have hll : (m.out.take i).length ≤ 40 := by rw [List.length_take]; omega
    have e1 := tx_app (outT (m.out.take i)) (Lib.decDigits (m.out.getD i 0).toNat)
    have hz : (((tx (outT (m.out.take i))).size + (tx (Lib.decDigits (m.out.getD i 0).toNat)).size : Nat) : Int) ≤ 9223372036854775807 := by
      rw [tx_size, tx_size]
      omega
    have hz2 : (((tx (outT (m.out.take i)) ++ tx (Lib.decDigits (m.out.getD i 0).toNat)).size + (tx [10]).size : Nat) : Int) ≤ 9223372036854775807 := by
      rw [e1, tx_size, tx_size, List.length_append]
      simp only [List.length_cons, List.length_nil]
      omega
    have he : tx (outT (m.out.take i)) ++ tx (Lib.decDigits (m.out.getD i 0).toNat) ++ tx [10] = tx (outT (m.out.take (i + 1))) := by rw [e1, tx_app, hsn, List.append_assoc]
    refine bsplit_of_true (decide_eq_true (show (i : Int) < (m.out.length : Int) by omega)) ?_
    refine ask_intro ⟨by omega, by show (i : Int) < (m.out.length : Int); omega, rfl⟩ ?_
    refine .inl ⟨_, _, rfl, c2, rfl, ?_⟩
    refine ask_intro hz ?_
    refine ask_intro hz2 ?_
    exact ⟨⟨i + 1, by omega⟩, le_of [(10, 10), (11, 11)] rfl rfl rfl rfl (tellHp_box rfl rfl ⟨rfl, rfl, trivial⟩ (tellHp_box rfl rfl ⟨DLe.refl _, rfl, DLe.refl _, rfl, rfl, rfl, rfl, DLe.refl _, DLe.refl _, trivial⟩ tellHp_nil)) (tellFr_ptr rfl rfl (tellFr_ptr rfl rfl (tellFr_v rfl (congrArg Value.string he) (tellFr_v rfl hwi trivial)))), by show m.out.length - (i + 1) < m.out.length - i; omega⟩
  · obtain rfl : i = m.out.length := by omega
    refine bsplit_of_false (decide_eq_false (show ¬ (m.out.length : Int) < (m.out.length : Int) by omega)) ?_
    exact ⟨⟨rfl, congrArg Value.string (show tx (outT (m.out.take m.out.length)) = tx (outT m.out) by rw [List.take_length]), trivial⟩, rfl⟩
theorem c_laws_FnExactOutText (m : HartM) (ho : m.ok) : FnOK Tryd.prog 3 [hartLV m] (rb true) := by
  have hs := ho.small
  refine fn_of lv3 Tryd.func3 rfl rfl (by kernel_rfl) rfl ?_
  refine .inl ⟨_, _, rfl, c_laws_szHart m hs _ (by decide) (by decide), rfl, ?_⟩
  refine bsplit_intro (fun h => ?_) (fun h => ?_)
  · exact ⟨⟨rfl, trivial⟩, rfl⟩
  refine .inl ⟨_, _, rfl, c_laws_toHart m hs, rfl, ?_⟩
  refine .inl ⟨_, _, rfl, c_spec_OutText m hs, rfl, ?_⟩
  refine .inl ⟨_, _, rfl, c_laws_toHart m hs, rfl, ?_⟩
  refine .inl ⟨_, _, rfl, c_impl_OutText m hs, rfl, ?_⟩
  refine .inl ⟨_, _, rfl, c_laws_eqTextResult (outText m), rfl, ?_⟩
  refine bsplit_of_false (by simp) ?_
  refine .inl ⟨_, _, rfl, c_laws_toHart m hs, rfl, ?_⟩
  refine .inl ⟨_, _, rfl, c_laws_eqHart m m hs, rfl, ?_⟩
  refine chk_intro (by kernel_rfl) ?_
  refine bsplit_of_false (by simp) ?_
  exact ⟨⟨rfl, trivial⟩, rfl⟩
end Go.Proofs.YtfcekiehcchebaaDoor.L

/- The text of a machine: contracts. -/
set_option linter.unusedVariables false
set_option linter.unusedSimpArgs false
set_option maxRecDepth 100000
namespace Go.Proofs.YtfcekiehcchebaaDoor.L
open Go.RowKit
def bitI (b : Bool) : Int := if b = true then 1 else 0
theorem bitI_few (b : Bool) : few32 [bitI b] := by
  intro x hx
  obtain rfl : x = bitI b := by simpa using hx
  cases b <;> decide
theorem c_impl_bit (b : Bool) : FnOK Tryd.prog 48 [dv (.bool b)] (ri (bitI b)) := by
  cases b
  · refine fn_of lv48 Tryd.func48 rfl rfl (by kernel_rfl) rfl ?_
    refine bsplit_of_false rfl ?_
    exact ⟨⟨rfl, trivial⟩, rfl⟩
  · refine fn_of lv48 Tryd.func48 rfl rfl (by kernel_rfl) rfl ?_
    refine bsplit_of_true rfl ?_
    exact ⟨⟨rfl, trivial⟩, rfl⟩
theorem c_spec_l11Bit (b : Bool) : FnOK Tryd.prog 42 [dv (.bool b)] (ri (bitI b)) := by
  cases b
  · refine fn_of lv42 Tryd.func42 rfl rfl (by kernel_rfl) rfl ?_
    refine bsplit_of_false rfl ?_
    exact ⟨⟨rfl, trivial⟩, rfl⟩
  · refine fn_of lv42 Tryd.func42 rfl rfl (by kernel_rfl) rfl ?_
    refine bsplit_of_true rfl ?_
    exact ⟨⟨rfl, trivial⟩, rfl⟩
/-- the words of the registers that are not 0 -/
def regB (k : Nat) (w : Int) : List UInt8 := Lib.decDigits k ++ [58] ++ Lib.decDigits w.toNat
def regW (r : List Int) : Nat → List (List UInt8)
  | 0 => []
  | k + 1 => if r.getD k 0 = 0 then regW r k else regW r k ++ [regB k (r.getD k 0)]
theorem regW_len (r : List Int) : ∀ k, (regW r k).length ≤ k
  | 0 => Nat.le_refl _
  | k + 1 => by
    have := regW_len r k
    unfold regW
    split
    · omega
    · rw [List.length_append, List.length_cons, List.length_nil]; omega
theorem tail_snoc (l : List (List UInt8)) (w : List UInt8) : Lib.joinTail [32] (l ++ [w]) = Lib.joinTail [32] l ++ [32] ++ w := by
  simp [Lib.joinTail, List.append_assoc]
theorem tail_len (l : List (List UInt8)) (w : List UInt8) : (Lib.joinTail [32] (l ++ [w])).length = (Lib.joinTail [32] l).length + 1 + w.length := by
  rw [tail_snoc, List.length_append, List.length_append, List.length_cons, List.length_nil]
theorem regB_len (k : Nat) (w : Int) (h0 : 0 ≤ w) (h1 : w ≤ 4294967295) : (regB k w).length ≤ k + 4294967298 := by
  have h2 := dd_len k
  have h3 := dd_len w.toNat
  unfold regB
  rw [List.length_append, List.length_append, List.length_cons, List.length_nil]
  omega
theorem regW_size {r : List Int} (h : few32 r) (B : Nat) (hB : 4294967500 ≤ B) : ∀ k, k ≤ r.length → k ≤ 100 → (Lib.joinTail [32] (regW r k)).length ≤ k * B
  | 0, _, _ => by simp [regW, Lib.joinTail]
  | k + 1, hk, hk2 => by
    have h1 := regW_size h B hB k (by omega) (by omega)
    have h2 := getD_few h (i := k) (by omega)
    have h3 := regB_len k (r.getD k 0) h2.1 h2.2
    have h4 : (k + 1) * B = k * B + B := Nat.succ_mul _ _
    rw [h4]
    generalize k * B = q at *
    unfold regW
    split
    · exact Nat.le_trans h1 (Nat.le_add_right _ _)
    · rw [tail_len]; omega
def regsT (r : List Int) (k : Nat) : List UInt8 := [114, 101, 103, 115] ++ Lib.joinTail [32] (regW r k)
theorem regsT_len {r : List Int} (h : few32 r) {k : Nat} (hk : k ≤ r.length) (hk2 : k ≤ 100) : (regsT r k).length ≤ 4 + k * 4294967500 := by
  have := regW_size h 4294967500 (by decide) k hk hk2
  unfold regsT
  rw [List.length_append]
  simp only [List.length_cons, List.length_nil]
  omega
theorem regsT_skip {r : List Int} {k : Nat} (h : r.getD k 0 = 0) : regsT r (k + 1) = regsT r k := by
  unfold regsT
  rw [regW, if_pos h]
theorem regsT_snoc {r : List Int} {k : Nat} (h : ¬ r.getD k 0 = 0) : regsT r (k + 1) = regsT r k ++ [32] ++ Lib.decDigits k ++ [58] ++ Lib.decDigits (r.getD k 0).toNat := by
  unfold regsT
  rw [regW, if_neg h, tail_snoc]
  unfold regB
  simp [List.append_assoc]
def hartT (m : HartM) : List UInt8 := lineT [112, 99] [m.pc] ++ lineT [100, 111, 110, 101] [m.done] ++ lineT [104, 97, 108, 116, 101, 100] [bitI m.halted] ++ lineT [119, 97, 105, 116, 105, 110, 103] [bitI m.waiting] ++ (regsT m.regs 16 ++ [10]) ++ lineT [111, 117, 116] m.out
structure HartFew (m : HartM) : Prop where
  regs : m.regs.length = 16
  fr : few32 m.regs
  pc : few32 [m.pc]
  done : few32 [m.done]
  out : few32 m.out
  ol : m.out.length ≤ 40
theorem one_few {x : Int} (h : 0 ≤ x ∧ x ≤ 4294967295) : few32 [x] := by
  intro y hy
  obtain rfl : y = x := by simpa using hy
  exact h
theorem HartM.right.few (m : HartM) (h : m.right) : HartFew m := by
  have hd := inR_iff.1 h.done
  have hp := inR_iff.1 h.wp
  refine ⟨h.regs, fun x hx => inR_iff.1 (h.wr x hx), one_few hp, one_few ⟨hd.1, by omega⟩, fun x hx => inR_iff.1 (h.wo x hx), h.out⟩
theorem sz_ok {a b : ByteArray} (h : a.size + b.size ≤ 9000000000000000000) : ((a.size + b.size : Nat) : Int) ≤ 9223372036854775807 := by omega
set_option maxHeartbeats 1600000 in
theorem c_impl_text (m : HartM) (h : HartFew m) : FnOK Tryd.prog 29 [.dptr (hartD m)] (rT (hartT m)) := by
  have c1 := c_impl_numbered [112, 99] [m.pc] (by decide) (by simp) h.pc
  have c2 := c_impl_numbered [100, 111, 110, 101] [m.done] (by decide) (by simp) h.done
  have b3 := c_impl_bit m.halted
  have c3 := c_impl_numbered [104, 97, 108, 116, 101, 100] [bitI m.halted] (by decide) (by simp) (bitI_few _)
  have b4 := c_impl_bit m.waiting
  have c4 := c_impl_numbered [119, 97, 105, 116, 105, 110, 103] [bitI m.waiting] (by decide) (by simp) (bitI_few _)
  have c6 := c_impl_numbered [111, 117, 116] m.out (by decide) (by have := h.ol; omega) h.out
  have l1 := lineT_len [112, 99] h.pc
  have l2 := lineT_len [100, 111, 110, 101] h.done
  have l3 := lineT_len [104, 97, 108, 116, 101, 100] (bitI_few m.halted)
  have l4 := lineT_len [119, 97, 105, 116, 105, 110, 103] (bitI_few m.waiting)
  have l6 := lineT_len [111, 117, 116] h.out
  have l5 := regsT_len h.fr (k := 16) (by rw [h.regs]; decide) (by decide)
  have hol := h.ol
  have hrl := h.regs
  have hfr := h.fr
  have hj : Lib.join ([114, 101, 103, 115] :: regW m.regs 16) [32] = regsT m.regs 16 := Lib.join_cons _ _ _
  have hwl := regW_len m.regs 16
  have c5 := c_impl_line ([114, 101, 103, 115] :: regW m.regs 16) (by rw [List.length_cons]; omega) (by rw [hj]; omega)
  rw [hj] at c5
  obtain ⟨r, hr⟩ : ∃ r, r = hartT m := ⟨_, rfl⟩
  rw [← hr]
  unfold hartT at hr
  simp only [List.length_cons, List.length_nil] at l1 l2 l3 l4 l6
  generalize lineT [112, 99] [m.pc] = P1 at *
  generalize lineT [100, 111, 110, 101] [m.done] = P2 at *
  generalize lineT [104, 97, 108, 116, 101, 100] [bitI m.halted] = P3 at *
  generalize lineT [119, 97, 105, 116, 105, 110, 103] [bitI m.waiting] = P4 at *
  generalize lineT [111, 117, 116] m.out = P6 at *
  obtain ⟨P5, hP5⟩ : ∃ P5, P5 = regsT m.regs 16 ++ [10] := ⟨_, rfl⟩
  have l5' : P5.length ≤ 70000000000 := by
    rw [hP5, List.length_append, List.length_cons, List.length_nil]
    omega
  rw [← hP5] at c5 hr
  have z1 := sz_ok (a := tx P1) (b := tx P2) (by rw [tx_size, tx_size]; omega)
  have z2 := sz_ok (a := tx P1 ++ tx P2) (b := tx P3) (by simp only [ByteArray.size_append, tx_size]; omega)
  have z3 := sz_ok (a := tx P1 ++ tx P2 ++ tx P3) (b := tx P4) (by simp only [ByteArray.size_append, tx_size]; omega)
  have z4 := sz_ok (a := tx P1 ++ tx P2 ++ tx P3 ++ tx P4) (b := tx P5) (by simp only [ByteArray.size_append, tx_size]; omega)
  have z5 := sz_ok (a := tx P1 ++ tx P2 ++ tx P3 ++ tx P4 ++ tx P5) (b := tx P6) (by simp only [ByteArray.size_append, tx_size]; omega)
  have hq : tx P1 ++ tx P2 ++ tx P3 ++ tx P4 ++ tx P5 ++ tx P6 = tx r := by simp only [tx_app]; rw [hr]
  refine fn_of lv29 Tryd.func29 rfl rfl (by kernel_rfl) rfl ?_
  refine ⟨{ i : Nat // i ≤ 16 }, fun i => ⟨frL [(0, .dptr (hartD m)), (3, .row 96), (10, .d (ints m.regs)), (11, di 16), (12, di i.1)], hpL [(96, txE ([114, 101, 103, 115] :: regW m.regs i.1))], 97, 0⟩, fun i => 16 - i.1, ⟨0, by omega⟩,
    le_of [(96, 4096)] rfl rfl rfl rfl (tellHp_row rfl rfl rfl (fun j hj => by obtain rfl : j = 0 := (by omega); rfl) tellHp_nil) (tellFr_x rfl ⟨DLe.refl _, DLe.refl _, DLe.refl _, DLe.refl _, DLe.refl _, DLe.refl _, DLe.refl _, DLe.refl _, DLe.refl _, trivial⟩ (tellFr_row rfl rfl (tellFr_d rfl (DLe.refl _) (tellFr_v rfl (congrArg (Value.int .i64) (by rw [hrl]; rfl)) (tellFr_v rfl rfl trivial))))), ?_⟩
  rintro ⟨i, hi⟩
  by_cases hb : i < 16
  · have hx := getD_few hfr (i := i) (by omega)
    have hwl2 := regW_len m.regs i
    have hwi := congrArg (Value.int .i64) (wrap1 hb (by omega))
    have k1 := c_impl_decimal (i : Int) (by omega) (by omega)
    have k2 := c_impl_decimal (m.regs.getD i 0) hx.1 (by omega)
    have d1 := dd_len (i : Int).toNat
    have d2 := dd_len (m.regs.getD i 0).toNat
    by_cases h0 : m.regs.getD i 0 = 0
    · have hsk : regW m.regs (i + 1) = regW m.regs i := by rw [regW, if_pos h0]
      refine bsplit_of_true (decide_eq_true (show (i : Int) < (16 : Int) by omega)) ?_
      refine ask_intro ⟨by omega, by show (i : Int) < (m.regs.length : Int); omega, rfl⟩ ?_
      refine bsplit_of_false (by simpa using h0) ?_
      refine ⟨⟨i + 1, by omega⟩, le_of [(96, 96)] rfl rfl rfl rfl (tellHp_row rfl rfl (by rw [hsk]) (fun j hj => by rw [hsk]) tellHp_nil) (tellFr_x rfl ⟨DLe.refl _, DLe.refl _, DLe.refl _, DLe.refl _, DLe.refl _, DLe.refl _, DLe.refl _, DLe.refl _, DLe.refl _, trivial⟩ (tellFr_row rfl rfl (tellFr_d rfl (DLe.refl _) (tellFr_v rfl rfl (tellFr_v rfl hwi trivial))))), by show 16 - (i + 1) < 16 - i; omega⟩
    · have hsn : regW m.regs (i + 1) = regW m.regs i ++ [regB i (m.regs.getD i 0)] := by rw [regW, if_neg h0]
      have y1 := sz_ok (a := tx (Lib.decDigits (i : Int).toNat)) (b := tx [58]) (by simp only [tx_size, List.length_cons, List.length_nil]; omega)
      have y2 := sz_ok (a := tx (Lib.decDigits (i : Int).toNat) ++ tx [58]) (b := tx (Lib.decDigits (m.regs.getD i 0).toNat)) (by simp only [ByteArray.size_append, tx_size, List.length_cons, List.length_nil]; omega)
      have hy : tx (Lib.decDigits (i : Int).toNat) ++ tx [58] ++ tx (Lib.decDigits (m.regs.getD i 0).toNat) = tx (regB i (m.regs.getD i 0)) := by simp only [tx_app]; rfl
      refine bsplit_of_true (decide_eq_true (show (i : Int) < (16 : Int) by omega)) ?_
      refine ask_intro ⟨by omega, by show (i : Int) < (m.regs.length : Int); omega, rfl⟩ ?_
      refine bsplit_of_true (by simpa using h0) ?_
      refine .inl ⟨_, _, rfl, k1, rfl, ?_⟩
      refine ask_intro y1 ?_
      refine .inl ⟨_, _, rfl, k2, rfl, ?_⟩
      refine ask_intro y2 ?_
      refine ask_intro ⟨by show ((regW m.regs i).length + 1 + 1) * 16 ≤ 140737488355328; omega, by show (regW m.regs i).length + 1 + 1 ≤ 9223372036854775807; omega, fun j hj => by obtain rfl : j = 0 := (by omega); rfl⟩ ?_
      refine ⟨⟨i + 1, by omega⟩, le_of [(96, 12641)] rfl rfl rfl rfl (tellHp_row rfl rfl ?_ (fun j hj => ?_) tellHp_nil) (tellFr_x rfl ⟨DLe.refl _, DLe.refl _, DLe.refl _, DLe.refl _, DLe.refl _, DLe.refl _, DLe.refl _, DLe.refl _, DLe.refl _, trivial⟩ (tellFr_row rfl rfl (tellFr_d rfl (DLe.refl _) (tellFr_v rfl rfl (tellFr_v rfl hwi trivial))))), by show 16 - (i + 1) < 16 - i; omega⟩
      · show (regW m.regs i).length + 1 + 1 = (regW m.regs (i + 1)).length + 1
        rw [hsn, List.length_append, List.length_cons, List.length_nil]
      · have hj : j < (regW m.regs i).length + 1 + 1 := hj
        rw [hsn]
        exact upto_txs ([114, 101, 103, 115] :: regW m.regs i) [regB i (m.regs.getD i 0)] _ (fun q hq => by
          obtain rfl : q = 0 := (by simpa using hq)
          show [D.v (.string (tx (Lib.decDigits (i : Int).toNat) ++ tx [58] ++ tx (Lib.decDigits (m.regs.getD i 0).toNat)))] = [D.v (.string (tx (regB i (m.regs.getD i 0))))]
          rw [hy]) j hj
  · obtain rfl : i = 16 := by omega
    refine bsplit_of_false (decide_eq_false (show ¬ (16 : Int) < (16 : Int) by omega)) ?_
    refine .inl ⟨_, _, rfl, c1.weak ⟨LVLe.refl _, LVLe.d (DLe.l rfl (fun j hj => litD_eq [m.pc] j hj)), trivial⟩, rfl, ?_⟩
    refine .inl ⟨_, _, rfl, c2.weak ⟨LVLe.refl _, LVLe.d (DLe.l rfl (fun j hj => litD_eq [m.done] j hj)), trivial⟩, rfl, ?_⟩
    refine ask_intro z1 ?_
    refine .inl ⟨_, _, rfl, b3, rfl, ?_⟩
    refine .inl ⟨_, _, rfl, c3.weak ⟨LVLe.refl _, LVLe.d (DLe.l rfl (fun j hj => litD_eq [bitI m.halted] j hj)), trivial⟩, rfl, ?_⟩
    refine ask_intro z2 ?_
    refine .inl ⟨_, _, rfl, b4, rfl, ?_⟩
    refine .inl ⟨_, _, rfl, c4.weak ⟨LVLe.refl _, LVLe.d (DLe.l rfl (fun j hj => litD_eq [bitI m.waiting] j hj)), trivial⟩, rfl, ?_⟩
    refine ask_intro z3 ?_
    refine .inl ⟨_, _, rfl, c5, rfl, ?_⟩
    refine ask_intro z4 ?_
    refine .inl ⟨_, _, rfl, c6, rfl, ?_⟩
    refine ask_intro z5 ?_
    refine chk_intro (by kernel_rfl) ?_
    exact ⟨⟨congrArg Value.string hq, trivial⟩, rfl⟩
set_option maxHeartbeats 1600000 in
theorem c_spec_l11Text (m : HartM) (h : HartFew m) : FnOK Tryd.prog 26 [.dptr (hartD m)] (rT (hartT m)) := by
  have c1 := c_spec_l6Line [112, 99] [m.pc] (by decide) (by simp) h.pc
  have c2 := c_spec_l6Line [100, 111, 110, 101] [m.done] (by decide) (by simp) h.done
  have b3 := c_spec_l11Bit m.halted
  have c3 := c_spec_l6Line [104, 97, 108, 116, 101, 100] [bitI m.halted] (by decide) (by simp) (bitI_few _)
  have b4 := c_spec_l11Bit m.waiting
  have c4 := c_spec_l6Line [119, 97, 105, 116, 105, 110, 103] [bitI m.waiting] (by decide) (by simp) (bitI_few _)
  have c6 := c_spec_l6Line [111, 117, 116] m.out (by decide) (by have := h.ol; omega) h.out
  have l1 := lineT_len [112, 99] h.pc
  have l2 := lineT_len [100, 111, 110, 101] h.done
  have l3 := lineT_len [104, 97, 108, 116, 101, 100] (bitI_few m.halted)
  have l4 := lineT_len [119, 97, 105, 116, 105, 110, 103] (bitI_few m.waiting)
  have l6 := lineT_len [111, 117, 116] h.out
  have hol := h.ol
  have hrl := h.regs
  have hfr := h.fr
  obtain ⟨r, hr⟩ : ∃ r, r = hartT m := ⟨_, rfl⟩
  rw [← hr]
  unfold hartT at hr
  simp only [List.length_cons, List.length_nil] at l1 l2 l3 l4 l6
  generalize lineT [112, 99] [m.pc] = P1 at *
  generalize lineT [100, 111, 110, 101] [m.done] = P2 at *
  generalize lineT [104, 97, 108, 116, 101, 100] [bitI m.halted] = P3 at *
  generalize lineT [119, 97, 105, 116, 105, 110, 103] [bitI m.waiting] = P4 at *
  generalize lineT [111, 117, 116] m.out = P6 at *
  obtain ⟨Q, hQ⟩ : ∃ Q, Q = P1 ++ P2 ++ P3 ++ P4 := ⟨_, rfl⟩
  have lQ : Q.length ≤ 40000000000 := by
    rw [hQ]
    simp only [List.length_append]
    omega
  rw [← hQ] at hr
  have z1 := sz_ok (a := tx P1) (b := tx P2) (by rw [tx_size, tx_size]; omega)
  have z2 := sz_ok (a := tx P1 ++ tx P2) (b := tx P3) (by simp only [ByteArray.size_append, tx_size]; omega)
  have z3 := sz_ok (a := tx P1 ++ tx P2 ++ tx P3) (b := tx P4) (by simp only [ByteArray.size_append, tx_size]; omega)
  have z4 := sz_ok (a := tx P1 ++ tx P2 ++ tx P3 ++ tx P4) (b := tx [114, 101, 103, 115]) (by simp only [ByteArray.size_append, tx_size, List.length_cons, List.length_nil]; omega)
  have hq : tx P1 ++ tx P2 ++ tx P3 ++ tx P4 ++ tx [114, 101, 103, 115] = tx (Q ++ regsT m.regs 0) := by
    simp only [tx_app]
    rw [hQ]
    simp [regsT, regW, Lib.joinTail]
  refine fn_of lv26 Tryd.func26 rfl rfl (by kernel_rfl) rfl ?_
  refine .inl ⟨_, _, rfl, c1.weak ⟨LVLe.refl _, LVLe.d (DLe.l rfl (fun j hj => litD_eq [m.pc] j hj)), trivial⟩, rfl, ?_⟩
  refine .inl ⟨_, _, rfl, c2.weak ⟨LVLe.refl _, LVLe.d (DLe.l rfl (fun j hj => litD_eq [m.done] j hj)), trivial⟩, rfl, ?_⟩
  refine ask_intro z1 ?_
  refine .inl ⟨_, _, rfl, b3, rfl, ?_⟩
  refine .inl ⟨_, _, rfl, c3.weak ⟨LVLe.refl _, LVLe.d (DLe.l rfl (fun j hj => litD_eq [bitI m.halted] j hj)), trivial⟩, rfl, ?_⟩
  refine ask_intro z2 ?_
  refine .inl ⟨_, _, rfl, b4, rfl, ?_⟩
  refine .inl ⟨_, _, rfl, c4.weak ⟨LVLe.refl _, LVLe.d (DLe.l rfl (fun j hj => litD_eq [bitI m.waiting] j hj)), trivial⟩, rfl, ?_⟩
  refine ask_intro z3 ?_
  refine ask_intro z4 ?_
  refine chk_intro (by kernel_rfl) ?_
  refine ⟨{ i : Nat // i ≤ 16 }, fun i => ⟨frL [(0, .dptr (hartD m)), (3, dT (Q ++ regsT m.regs i.1)), (4, di i.1)], hpL [], 97, 0⟩, fun i => 16 - i.1, ⟨0, by omega⟩,
    le_of [] rfl rfl rfl rfl tellHp_nil (tellFr_x rfl ⟨DLe.refl _, DLe.refl _, DLe.refl _, DLe.refl _, DLe.refl _, DLe.refl _, DLe.refl _, DLe.refl _, DLe.refl _, trivial⟩ (tellFr_v rfl (congrArg Value.string hq) (tellFr_v rfl rfl trivial))), ?_⟩
  rintro ⟨i, hi⟩
  have l5 := regsT_len hfr (k := i) (by omega) (by omega)
  have l5' : (regsT m.regs i).length ≤ 70000000000 := by omega
  have hza : (Q ++ regsT m.regs i).length ≤ 200000000000 := by rw [List.length_append]; omega
  by_cases hb : i < 16
  · have hx := getD_few hfr (i := i) (by omega)
    have hwi := congrArg (Value.int .i64) (wrap1 hb (by omega))
    by_cases h0 : m.regs.getD i 0 = 0
    · have hsk := regsT_skip h0
      refine bsplit_of_true (decide_eq_true (show (i : Int) < (16 : Int) by omega)) ?_
      refine ask_intro ⟨by omega, by show (i : Int) < (m.regs.length : Int); omega, rfl⟩ ?_
      refine bsplit_of_false (by simpa using h0) ?_
      refine ⟨⟨i + 1, by omega⟩, le_of [] rfl rfl rfl rfl tellHp_nil (tellFr_x rfl ⟨DLe.refl _, DLe.refl _, DLe.refl _, DLe.refl _, DLe.refl _, DLe.refl _, DLe.refl _, DLe.refl _, DLe.refl _, trivial⟩ (tellFr_v rfl (congrArg (fun z => Value.string (tx (Q ++ z))) hsk.symm) (tellFr_v rfl hwi trivial))), by show 16 - (i + 1) < 16 - i; omega⟩
    · have hsn := regsT_snoc h0
      have k1 := c_spec_l2Digits i (i : Int) rfl (by omega)
      have k2 := c_spec_l2Digits (m.regs.getD i 0).toNat (m.regs.getD i 0) (by omega) (by omega)
      have d1 := dd_len i
      have d2 := dd_len (m.regs.getD i 0).toNat
      have hsn2 : tx (Q ++ regsT m.regs i) ++ tx [32] ++ tx (Lib.decDigits i) ++ tx [58] ++ tx (Lib.decDigits (m.regs.getD i 0).toNat) = tx (Q ++ regsT m.regs (i + 1)) := by
        simp only [tx_app]
        rw [hsn]
        simp only [List.append_assoc]
      have y1 := sz_ok (a := tx (Q ++ regsT m.regs i)) (b := tx [32]) (by simp only [tx_size, List.length_cons, List.length_nil]; omega)
      have y2 := sz_ok (a := tx (Q ++ regsT m.regs i) ++ tx [32]) (b := tx (Lib.decDigits i)) (by simp only [ByteArray.size_append, tx_size, List.length_cons, List.length_nil]; omega)
      have y3 := sz_ok (a := tx (Q ++ regsT m.regs i) ++ tx [32] ++ tx (Lib.decDigits i)) (b := tx [58]) (by simp only [ByteArray.size_append, tx_size, List.length_cons, List.length_nil]; omega)
      have y4 := sz_ok (a := tx (Q ++ regsT m.regs i) ++ tx [32] ++ tx (Lib.decDigits i) ++ tx [58]) (b := tx (Lib.decDigits (m.regs.getD i 0).toNat)) (by simp only [ByteArray.size_append, tx_size, List.length_cons, List.length_nil]; omega)
      refine bsplit_of_true (decide_eq_true (show (i : Int) < (16 : Int) by omega)) ?_
      refine ask_intro ⟨by omega, by show (i : Int) < (m.regs.length : Int); omega, rfl⟩ ?_
      refine bsplit_of_true (by simpa using h0) ?_
      refine ask_intro y1 ?_
      refine .inl ⟨_, _, rfl, k1, rfl, ?_⟩
      refine ask_intro y2 ?_
      refine ask_intro y3 ?_
      refine ask_intro ⟨by omega, by show (i : Int) < (m.regs.length : Int); omega, rfl⟩ ?_
      refine .inl ⟨_, _, rfl, k2, rfl, ?_⟩
      refine ask_intro y4 ?_
      refine chk_intro (by kernel_rfl) ?_
      refine ⟨⟨i + 1, by omega⟩, le_of [] rfl rfl rfl rfl tellHp_nil (tellFr_x rfl ⟨DLe.refl _, DLe.refl _, DLe.refl _, DLe.refl _, DLe.refl _, DLe.refl _, DLe.refl _, DLe.refl _, DLe.refl _, trivial⟩ (tellFr_v rfl (congrArg Value.string hsn2) (tellFr_v rfl hwi trivial))), by show 16 - (i + 1) < 16 - i; omega⟩
  · obtain rfl : i = 16 := by omega
    have he : tx (Q ++ regsT m.regs 16) ++ tx [10] ++ tx P6 = tx r := by
      simp only [tx_app]
      rw [hr]
      simp only [List.append_assoc]
    have y1 := sz_ok (a := tx (Q ++ regsT m.regs 16)) (b := tx [10]) (by simp only [tx_size, List.length_cons, List.length_nil]; omega)
    have y2 := sz_ok (a := tx (Q ++ regsT m.regs 16) ++ tx [10]) (b := tx P6) (by simp only [ByteArray.size_append, tx_size, List.length_cons, List.length_nil]; omega)
    refine bsplit_of_false (decide_eq_false (show ¬ (16 : Int) < (16 : Int) by omega)) ?_
    refine ask_intro y1 ?_
    refine .inl ⟨_, _, rfl, c6, rfl, ?_⟩
    refine ask_intro y2 ?_
    exact ⟨⟨congrArg Value.string he, trivial⟩, rfl⟩
def soloText (x : SoloM) : Int × List UInt8 := if soloFault x = 0 then (0, hartT x.hart) else (soloFault x, [])
theorem solo_hart {x : SoloM} (h : soloFault x = 0) : HartFew x.hart := by
  unfold soloFault at h
  split at h
  · rename_i h0
    exact HartM.right.few _ (hFault_right h0)
  · rename_i h0
    exact absurd h h0
theorem c_impl_SoloText (x : SoloM) (hs : x.small) (hp : x.pages.length ≤ 1048576) (hm : x.mem.length ≤ 1048576) : FnOK Tryd.prog 14 [soloLV x] (.r (trR (soloText x))) := by
  have c1 := c_impl_SoloFault x hs hp hm
  obtain ⟨r, hr⟩ : ∃ r, r = soloText x := ⟨_, rfl⟩
  rw [← hr]
  unfold soloText at hr
  by_cases h : soloFault x = 0
  rotate_left
  · rw [if_neg h] at hr
    subst hr
    generalize soloFault x = e at *
    refine fn_of lv14 Tryd.func14 rfl rfl (by kernel_rfl) rfl ?_
    refine .inl ⟨_, _, rfl, c1, rfl, ?_⟩
    refine bsplit_of_true (by simpa using h) ?_
    exact ⟨⟨rfl, rfl, trivial⟩, rfl⟩
  rw [if_pos h] at hr
  subst hr
  have c2 := c_impl_text x.hart (solo_hart h)
  rw [h] at c1
  generalize hartT x.hart = T at *
  refine fn_of lv14 Tryd.func14 rfl rfl (by kernel_rfl) rfl ?_
  refine .inl ⟨_, _, rfl, c1, rfl, ?_⟩
  repeat' (first | refine bsplit_true ?_ | refine bsplit_false ?_)
  refine .inl ⟨_, _, rfl, c2.weak ⟨LVLe.pre (hartD x.hart) [Go.Proofs.YtfcekiehcchebaaDoor.L.pages x.pages, ints x.mem], trivial⟩, rfl, ?_⟩
  exact ⟨⟨rfl, rfl, trivial⟩, rfl⟩
theorem c_spec_SoloText (x : SoloM) (hs : x.small) (hp : x.pages.length ≤ 1048576) (hm : x.mem.length ≤ 1048576) : FnOK Tryd.prog 12 [soloLV x] (.r (trR (soloText x))) := by
  have c1 := c_spec_SoloFault x hs hp hm
  obtain ⟨r, hr⟩ : ∃ r, r = soloText x := ⟨_, rfl⟩
  rw [← hr]
  unfold soloText at hr
  by_cases h : soloFault x = 0
  rotate_left
  · rw [if_neg h] at hr
    subst hr
    generalize soloFault x = e at *
    refine fn_of lv12 Tryd.func12 rfl rfl (by kernel_rfl) rfl ?_
    refine .inl ⟨_, _, rfl, c1, rfl, ?_⟩
    refine bsplit_of_true (by simpa using h) ?_
    exact ⟨⟨rfl, rfl, trivial⟩, rfl⟩
  rw [if_pos h] at hr
  subst hr
  have c2 := c_spec_l11Text x.hart (solo_hart h)
  rw [h] at c1
  generalize hartT x.hart = T at *
  refine fn_of lv12 Tryd.func12 rfl rfl (by kernel_rfl) rfl ?_
  refine .inl ⟨_, _, rfl, c1, rfl, ?_⟩
  repeat' (first | refine bsplit_true ?_ | refine bsplit_false ?_)
  refine .inl ⟨_, _, rfl, c2.weak ⟨LVLe.pre (hartD x.hart) [Go.Proofs.YtfcekiehcchebaaDoor.L.pages x.pages, ints x.mem], trivial⟩, rfl, ?_⟩
  exact ⟨⟨rfl, rfl, trivial⟩, rfl⟩
theorem c_laws_FnExactSoloText (x : SoloM) (ho : x.ok) : FnOK Tryd.prog 4 [soloLV x] (rb true) := by
  have hs := ho.small
  obtain ⟨v, hv, cv⟩ := szSoloE x hs
  by_cases hneg : v < 0
  · refine fn_of lv4 Tryd.func4 rfl rfl (by kernel_rfl) rfl ?_
    refine .inl ⟨_, _, rfl, cv, rfl, ?_⟩
    refine bsplit_of_true (decide_eq_true hneg) ?_
    exact ⟨⟨rfl, trivial⟩, rfl⟩
  obtain ⟨hf, hp, hm⟩ := hv hneg
  have ct := c_laws_toSolo x hs
  have cs := c_spec_SoloText x hs hp hm
  have ci := c_impl_SoloText x hs hp hm
  have ce := c_laws_eqSolo x x hs
  obtain ⟨q, hq⟩ : ∃ q, q = soloText x := ⟨_, rfl⟩
  rw [← hq] at cs ci
  have cq := c_laws_eqTextResult q
  refine fn_of lv4 Tryd.func4 rfl rfl (by kernel_rfl) rfl ?_
  refine .inl ⟨_, _, rfl, cv, rfl, ?_⟩
  refine bsplit_of_false (decide_eq_false hneg) ?_
  refine .inl ⟨_, _, rfl, ct, rfl, ?_⟩
  refine .inl ⟨_, _, rfl, cs, rfl, ?_⟩
  refine .inl ⟨_, _, rfl, ct, rfl, ?_⟩
  refine .inl ⟨_, _, rfl, ci, rfl, ?_⟩
  refine .inl ⟨_, _, rfl, cq, rfl, ?_⟩
  refine bsplit_of_false (by simp) ?_
  refine .inl ⟨_, _, rfl, ct, rfl, ?_⟩
  refine .inl ⟨_, _, rfl, ce, rfl, ?_⟩
  refine chk_intro (by kernel_rfl) ?_
  refine bsplit_of_false (by simp) ?_
  exact ⟨⟨rfl, trivial⟩, rfl⟩
end Go.Proofs.YtfcekiehcchebaaDoor.L

/- The law FnExactSoloText answers true at every input that its statement lets in. -/
set_option linter.unusedVariables false
set_option maxRecDepth 100000
namespace Go.Proofs.YtfcekiehcchebaaDoor.L.FnExactSoloText
open Go.RowKit Go.ChangeShapes Go.WideShapes Go.ChangeAt
noncomputable def laidWorld (os : Os) : World :=
  let w0 := World.holding Tryd.prog os ⟨#[], #[], []⟩
  { w0 with heap := (((w0.heap.modify 0 fun
      | .cells _ t frozen => .cells (([1, 10, 100, 1000, 10000, 100000, 1000000, 10000000, 100000000, 1000000000, 10000000000, 100000000000, 1000000000000, 10000000000000, 100000000000000, 1000000000000000, 10000000000000000, 100000000000000000, 1000000000000000000, 10000000000000000000] : List Int).map (Value.int .u64)).toArray t frozen
      | o => o).modify 2 fun
      | .cells _ t frozen => .cells (([0, 1, 28, 2, 29, 14, 24, 3, 30, 22, 20, 15, 25, 17, 4, 8, 31, 27, 13, 23, 21, 19, 16, 7, 26, 12, 18, 6, 11, 5, 10, 9] : List Int).map (Value.int .u8)).toArray t frozen
      | o => o).modify 3 fun
      | .cells _ t frozen => .cells (([0, 1, 56, 2, 57, 49, 28, 3, 61, 58, 42, 50, 38, 29, 17, 4, 62, 47, 59, 36, 45, 43, 51, 22, 53, 39, 33, 30, 24, 18, 12, 5, 63, 55, 48, 27, 60, 41, 37, 16, 46, 35, 44, 21, 52, 32, 23, 11, 54, 26, 40, 15, 34, 20, 31, 10, 25, 14, 19, 9, 13, 8, 7, 6] : List Int).map (Value.int .u8)).toArray t frozen
      | o => o) }
theorem laidWorld_met (os : Os) (args : Array Value) : laidMetH Tryd.prog Rows.fnExactSoloTextRow.laid ((laidWorld os).forCall (fun _ _ => 0) ⟨#[], args, []⟩).memory :=
  show laidMet Tryd.prog Rows.fnExactSoloTextRow.laid _ from laidMet_of_run' 8 (by kernel_rfl) (by kernel_rfl)
theorem gl_of_laid {W : World} (h : laidMetH Tryd.prog Rows.fnExactSoloTextRow.laid W) : GlOK (Mem W) W := by
  have h' : laidMet Tryd.prog Rows.fnExactSoloTextRow.laid W := h
  obtain ⟨ps, hv, _⟩ := h'
  intro g k zs hg
  rcases List.mem_cons.1 hg with e | hg
  · cases e
    have t := tab_of_laid (P := Tryd.prog) (W := W) (name := "internal/strconv.uint64pow10") (k := .u64) (zs := [1, 10, 100, 1000, 10000, 100000, 1000000, 10000000, 100000000, 1000000000, 10000000000, 100000000000, 1000000000000, 10000000000000, 100000000000000, 1000000000000000, 10000000000000000, 100000000000000000, 1000000000000000000, 10000000000000000000]) (g := 0) (t := 100) (e := 90) (n := 20) (by kernel_rfl) (by kernel_rfl) (by kernel_rfl) (by kernel_rfl) (by kernel_rfl) (by kernel_rfl) hv (List.Mem.tail _ (List.Mem.tail _ (List.Mem.head _)))
    exact gl_tab t (by kernel_rfl) (by simp)
  rcases List.mem_cons.1 hg with e | hg
  · cases e
    have t := tab_of_laid (P := Tryd.prog) (W := W) (name := "math/bits.deBruijn32tab") (k := .u8) (zs := [0, 1, 28, 2, 29, 14, 24, 3, 30, 22, 20, 15, 25, 17, 4, 8, 31, 27, 13, 23, 21, 19, 16, 7, 26, 12, 18, 6, 11, 5, 10, 9]) (g := 2) (t := 107) (e := 5) (n := 32) (by kernel_rfl) (by kernel_rfl) (by kernel_rfl) (by kernel_rfl) (by kernel_rfl) (by kernel_rfl) hv (List.Mem.head _)
    exact gl_tab t (by kernel_rfl) (by simp)
  rcases List.mem_cons.1 hg with e | hg
  · cases e
    have t := tab_of_laid (P := Tryd.prog) (W := W) (name := "math/bits.deBruijn64tab") (k := .u8) (zs := [0, 1, 56, 2, 57, 49, 28, 3, 61, 58, 42, 50, 38, 29, 17, 4, 62, 47, 59, 36, 45, 43, 51, 22, 53, 39, 33, 30, 24, 18, 12, 5, 63, 55, 48, 27, 60, 41, 37, 16, 46, 35, 44, 21, 52, 32, 23, 11, 54, 26, 40, 15, 34, 20, 31, 10, 25, 14, 19, 9, 13, 8, 7, 6]) (g := 3) (t := 108) (e := 5) (n := 64) (by kernel_rfl) (by kernel_rfl) (by kernel_rfl) (by kernel_rfl) (by kernel_rfl) (by kernel_rfl) hv (List.Mem.tail _ (List.Mem.head _))
    exact gl_tab t (by kernel_rfl) (by simp)
  cases hg
theorem lifted (os : Os) (started : os.Started) (H : Type) (enc : TypeId × Value → H) :
    ReturnsInHanded {} Tryd.checked os 4 .any (fun w args => (Rows.fnExactSoloTextSpec.pre enc Tryd.prog Tryd.f4 Rows.fnExactSoloTextRow.domain false w args ∧ laidMetH Tryd.prog Rows.fnExactSoloTextRow.laid w) ∧ sizedMet enc Tryd.prog Tryd.f4 (OpenSpec.ofChange Rows.fnExactSoloTextSpec) false w args) (Rows.fnExactSoloTextSpec.post enc Tryd.prog Tryd.f4 false true false false) := by
  refine returnsInHanded_of_change_and (C := Tryd.checked) (X := fun w _ => laidMetH Tryd.prog Rows.fnExactSoloTextRow.laid w) (fun _ _ _ hh h => h.of_heap hh) own started (by kernel_rfl) Tryd.func4
    (ChangeSpec.witness_at (enc := enc) (C := Tryd.checked) (os := os) (X := fun w _ => laidMetH Tryd.prog Rows.fnExactSoloTextRow.laid w) false (laidWorld os) #[.agg #[.slice none 0 0, .int .i64 0, .slice none 0 0, .bool false, .bool false, .bool false, .int .i64 0, .slice none 0 0, .slice none 0 0, .slice none 0 0, .slice none 0 0]] 8 rfl (by kernel_rfl) (by kernel_rfl) (by kernel_rfl) (by kernel_rfl) (by kernel_rfl) (laidWorld_met os _)) ?_
  intro W base args ds gs before hval0 hW hcnd hsz0 hL _
  have hsz : (DataW.weightsEach Tryd.prog (Tryd.f4.params.toList ++ Rows.fnExactSoloTextSpec.plain.varTypes Tryd.prog) (ds ++ gs)).all (· ≤ reachBytes) = true := hsz0
  have hval : ∀ (j : Nat) t v, Tryd.f4.params[j]? = some t → args[j]? = some v → Value.okWide Tryd.prog W .any base t v := hval0
  have hW' := hW
  obtain ⟨p, q, hA0, hV, rfl, hfz, hnd⟩ := hW
  have hA : DataW.TrodAll enc Tryd.prog W 0 (fun _ => true) true Tryd.f4.params.toList args.toList ds p := hA0
  rw [Tryd.params4] at hA hval hsz
  obtain ⟨v0, vs0, d0, ds0, p0, q0, hargs, rfl, rfl, h0, r0⟩ := trodAll_cons hA
  obtain ⟨rfl, rfl, rfl⟩ := trodAll_nil r0
  obtain rfl : args = #[v0] := by cases args; simp_all
  obtain ⟨rfl, rfl⟩ := trodVars_none hV
  have hsm : ∀ k ∈ DataW.weightsEach Tryd.prog ([36] ++ Rows.fnExactSoloTextSpec.plain.varTypes Tryd.prog) ([d0] ++ []), k ≤ reachBytes := fun k hk => by simpa using List.all_eq_true.1 hsz k hk
  have k0 := h0
  have lt0 : ∀ x ∈ p0, x.block < W.heap.size := by obtain ⟨m, hm⟩ := k0; exact DataW.trod_lt m _ _ _ hm
  obtain ⟨m0, hm0, hvr0⟩ := reads_Solo.agg Tryd.underlying36 (hval 0 36 v0 rfl rfl) h0 (fun k hk => hsm k (DataW.weights_mem_each (j := 0) rfl rfl k hk))
  refine ((c_laws_FnExactSoloText m0 hm0).calls W (Mem W) [v0] ⟨fun b hb => hb, gl_of_laid hL⟩ rfl (fun j hj => ?_)).mono fun e W' ⟨v, he, bel, hrr⟩ => ?_
  · match j, hj with
    | 0, _ => exact hvr0
    | j + 1, hj => exact absurd hj (by simp)
  · obtain ⟨us, J, hl, rfl, hJ, hok, _, _⟩ := hrr.ex
    have h1 := hok 0 _ rfl
    have h2 : RV.val us (rb true) = .bool true := h1
    rw [h2] at he
    subst he
    exact ⟨_, rfl, _, _, _, [], _, [], hW', trodAll_mk1 (shut_bool Tryd.underlying4 _), (trodAll_cons_mk (Below.trod laidOut (by kernel_rfl) (of_decide_eq_true (by kernel_rfl)) k0 bel lt0) trodAll_mk0), rfl, bel.frame _, fun h => by cases h⟩
theorem over : Rows.fnExactSoloTextRow.holds Tryd.pinned (OpenSpec.ofChange Rows.fnExactSoloTextSpec) :=
  OpenClaim.holds_of_wide 4 Tryd.f4 rfl rfl rfl rfl rfl rfl rfl ⟨rfl, rfl, rfl, rfl, rfl⟩ rfl rfl rfl rfl rfl (by kernel_rfl) Tryd.func4 (by kernel_rfl)
    (of_decide_eq_true (by kernel_rfl)) (by unfold Func.isWrapper; first | (rw [if_pos (by decide +kernel)]; kernel_rfl) | (rw [if_neg (by decide +kernel)]; exact ⟨rfl, rfl⟩))
    (fun os started H enc _ => lifted os started H enc)
theorem card : Rows.FnExactSoloTextCardSaid :=
  Claim7.holds_tied_plain_at .later [] [.data, .data, .data] true (true, "582f4c29a1e1e2ed15fb635f572d24a4b7f22b31045c8d15a0b1dd5e7b2df16f") false over (fun _ h => by cases h) (by kernel_rfl) (fun _ h => by cases h) fnExactSoloText_row_tie rfl ⟨rfl, rfl⟩ (by kernel_rfl) rfl
    (fun f fn hf hfn => by
      obtain rfl : f = 4 := (Option.some.inj ((show Tryd.prog.funcNamed "loop.example/g00213/laws.FnExactSoloText" = some 4 by kernel_rfl).symm.trans hf)).symm
      obtain rfl : fn = Tryd.f4 := (Option.some.inj (Tryd.func4.symm.trans hfn)).symm
      refine ⟨by kernel_rfl, fun j t ht => ?_⟩
      rw [Tryd.params4] at ht
      rcases j with _ | j
      · obtain rfl : t = 36 := by simpa using ht.symm
        exact (show Tryd.prog.wantsStandIn 36 = false by kernel_rfl)
      simp at ht)
    (by kernel_rfl)
end Go.Proofs.YtfcekiehcchebaaDoor.L.FnExactSoloText
namespace Go.Proofs.YtfcekiehcchebaaDoor
theorem fnExactSoloText_holds : Rows.FnExactSoloTextCardSaid := L.FnExactSoloText.card
#print axioms fnExactSoloText_holds
end Go.Proofs.YtfcekiehcchebaaDoor
