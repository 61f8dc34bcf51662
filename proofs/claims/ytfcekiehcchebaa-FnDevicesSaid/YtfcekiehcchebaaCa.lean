/- What the functions over words and rows of words compute: contracts, for rows that fit into memory. -/
import Derived.Test.YtfcekiehcchebaaLt
import Derived.Test.YtfcekiehcchebaaLr
set_option linter.unusedVariables false
set_option linter.unusedSimpArgs false
set_option maxRecDepth 100000
namespace Go.Proofs.Ytfcekiehcchebaa.L
open Go.RowKit
abbrev dv (v : Value) : LV := .d (.v v)
abbrev di (n : Int) : LV := .d (.v (.int .i64 n))
abbrev rb (b : Bool) : RV := .r (.one (.v (.bool b)))
abbrev ri (n : Int) : RV := .r (.one (.v (.int .i64 n)))
abbrev ints (l : List Int) : D := .l l.length fun i => [.v (.int .i64 (l.getD i 0))]

def inR (n a b : Int) : Bool := decide (a ≤ n) && decide (n ≤ b)
def isW (n : Int) : Bool := inR n 0 4294967295
theorem eqv {α : Type} {f : α → Value} {a b : α} (h : a = b) : f a = f b := by rw [h]

theorem c_impl_within (n a b : Int) : FnOK Try.prog 80 [di n, di a, di b] (rb (inR n a b)) := by
  refine fn_of lv80 Try.func80 rfl rfl rfl rfl ?_
  refine bsplit_intro (fun h => ?_) (fun h => ?_)
  · repeat' (first | refine bsplit_true ?_ | refine bsplit_false ?_)
    refine ⟨⟨congrArg Value.bool (?_ : decide (n ≤ b) = _), trivial⟩, rfl⟩
    simp at h; simp [inR, h]
  · repeat' (first | refine bsplit_true ?_ | refine bsplit_false ?_)
    refine ⟨⟨congrArg Value.bool (?_ : false = _), trivial⟩, rfl⟩
    simp at h; simp [inR]; omega
theorem c_spec_l1In (n a b : Int) : FnOK Try.prog 77 [di n, di a, di b] (rb (inR n a b)) := by
  refine fn_of lv77 Try.func77 rfl rfl rfl rfl ?_
  refine bsplit_intro (fun h => ?_) (fun h => ?_)
  · repeat' (first | refine bsplit_true ?_ | refine bsplit_false ?_)
    refine ⟨⟨congrArg Value.bool (?_ : decide (n ≤ b) = _), trivial⟩, rfl⟩
    simp at h; simp [inR, h]
  · repeat' (first | refine bsplit_true ?_ | refine bsplit_false ?_)
    refine ⟨⟨congrArg Value.bool (?_ : false = _), trivial⟩, rfl⟩
    simp at h; simp [inR]; omega

theorem c_impl_isWord (n : Int) : FnOK Try.prog 91 [di n] (rb (isW n)) := by
  refine fn_of lv91 Try.func91 rfl rfl rfl rfl ?_
  refine .inl ⟨_, _, rfl, c_impl_within _ _ _, rfl, ?_⟩
  exact ⟨⟨rfl, trivial⟩, rfl⟩
theorem c_spec_l8Word (n : Int) : FnOK Try.prog 119 [di n] (rb (isW n)) := by
  refine fn_of lv119 Try.func119 rfl rfl rfl rfl ?_
  refine .inl ⟨_, _, rfl, c_spec_l1In _ _ _, rfl, ?_⟩
  exact ⟨⟨rfl, trivial⟩, rfl⟩
theorem c_impl_areWords_1 (n : Int) : FnOK Try.prog 133 [di n] (rb (!isW n)) := by
  refine fn_of lv133 Try.func133 rfl rfl rfl rfl ?_
  refine .inl ⟨_, _, rfl, c_impl_isWord _, rfl, ?_⟩
  exact ⟨⟨rfl, trivial⟩, rfl⟩

theorem drop_all (l : List Int) (p : Int → Bool) (i : Nat) (h : i < l.length) : (l.drop i).all p = (p (l.getD i 0) && (l.drop (i + 1)).all p) := by
  rw [List.drop_eq_getElem_cons h, List.all_cons]
  simp [List.getD, List.getElem?_eq_getElem h]
theorem wrap_i64 (n : Int) (h1 : -9223372036854775808 ≤ n) (h2 : n < 9223372036854775808) : IntKind.i64.wrap n = n := by rw [IntKind.wrap_i64]; omega

theorem c_spec_l8All (l : List Int) (hl : l.length ≤ 9223372036854775807) : FnOK Try.prog 90 [.d (ints l)] (rb (l.all isW)) := by
  refine fn_of lv90 Try.func90 rfl rfl rfl rfl ?_
  refine ⟨{ i : Nat // i ≤ l.length ∧ (l.drop i).all isW = l.all isW }, fun i => ⟨frL [(0, .d (ints l)), (3, di i.1)], hpL [], 0, 0⟩, fun i => l.length - i.1, ⟨0, by simp⟩, le_of [] rfl rfl rfl rfl trivial (tellFr_d rfl (DLe.refl _) (tellFr_v rfl rfl trivial)), ?_⟩
  rintro ⟨i, hi, hall⟩
  refine bsplit_intro (fun h => ?_) (fun h => ?_)
  · have h : i < l.length := by simp at h; exact h
    refine ask_intro ⟨by omega, by simp; omega, rfl⟩ ?_
    refine .inl ⟨_, _, rfl, c_spec_l8Word _, rfl, ?_⟩
    refine bsplit_intro (fun h2 => ?_) (fun h2 => ?_)
    · refine ⟨⟨congrArg Value.bool (?_ : false = _), trivial⟩, rfl⟩
      have h2 : isW (l.getD i 0) = false := by simpa using h2
      rw [← hall, drop_all l isW i h, h2]; rfl
    · have h2 : isW (l.getD i 0) = true := by simpa using h2
      refine ⟨⟨i + 1, by omega, ?_⟩, le_of [] rfl rfl rfl rfl trivial (tellFr_d rfl (DLe.refl _) (tellFr_v rfl (congrArg (Value.int .i64) (?_ : IntKind.i64.wrap ((i : Int) + 1) = ((i + 1 : Nat) : Int))) trivial)), ?_⟩
      · rw [← hall, drop_all l isW i h, h2]; rfl
      · exact wrap_i64 (i + 1) (by omega) (by omega)
      · show l.length - (i + 1) < l.length - i
        omega
  · refine ⟨⟨congrArg Value.bool (?_ : true = _), trivial⟩, rfl⟩
    simp at h
    rw [← hall, List.drop_eq_nil_of_le h]; rfl
theorem c_laws_szInt64S (l : List Int) (q : Int) (hq : -9223372036854775808 ≤ q - l.length) (hq2 : q - l.length < 9223372036854775808) : FnOK Try.prog 69 [.d (ints l), di q] (ri (if q - l.length < 0 then -1 else q - l.length)) := by
  refine fn_of lv69 Try.func69 rfl rfl rfl rfl ?_
  refine bsplit_intro (fun h => ?_) (fun h => ?_)
  · refine ⟨⟨congrArg (Value.int .i64) (?_ : (-1 : Int) = _), trivial⟩, rfl⟩
    rw [wrap_i64 _ hq hq2] at h
    simp only [decide_eq_true_eq] at h
    rw [if_pos h]
  · refine ⟨⟨congrArg (Value.int .i64) (?_ : IntKind.i64.wrap (q - l.length) = _), trivial⟩, rfl⟩
    rw [wrap_i64 _ hq hq2] at h ⊢
    simp only [decide_eq_false_iff_not] at h
    rw [if_neg h]
theorem drop_any (l : List Int) (p : Int → Bool) (i : Nat) (h : i < l.length) : (l.drop i).any p = (p (l.getD i 0) || (l.drop (i + 1)).any p) := by
  rw [List.drop_eq_getElem_cons h, List.any_cons]
  simp [List.getD, List.getElem?_eq_getElem h]
def idxOf (l : List Int) (p : Int → Bool) (i : Nat) : Int := bif (l.drop i).any p then (((l.drop i).findIdx p + i : Nat) : Int) else -1
theorem idx_hit {l : List Int} {p : Int → Bool} {i : Nat} (h : i < l.length) (hp : p (l.getD i 0) = true) : idxOf l p i = i := by
  unfold idxOf
  rw [drop_any l p i h, hp, List.drop_eq_getElem_cons h]
  have : p l[i] = true := by simpa [List.getD, List.getElem?_eq_getElem h] using hp
  rw [List.findIdx_cons, this]
  simp
theorem idx_miss {l : List Int} {p : Int → Bool} {i : Nat} (h : i < l.length) (hp : p (l.getD i 0) = false) : idxOf l p i = idxOf l p (i + 1) := by
  unfold idxOf
  rw [drop_any l p i h, hp, Bool.false_or, List.drop_eq_getElem_cons h]
  have : p l[i] = false := by simpa [List.getD, List.getElem?_eq_getElem h] using hp
  cases (List.drop (i + 1) l).any p with
  | false => rfl
  | true =>
    simp only [cond_true, List.findIdx_cons, this, cond_false]
    omega
theorem idx_end {l : List Int} {p : Int → Bool} {i : Nat} (h : l.length ≤ i) : idxOf l p i = -1 := by
  unfold idxOf
  rw [List.drop_eq_nil_of_le h]; rfl

theorem c_slices_IndexFunc (g : Nat) (p : Int → Bool) (hg : ∀ n, FnOK Try.prog g [di n] (rb (p n))) (l : List Int) (hl : l.length ≤ 9223372036854775807) : FnOK Try.prog 150 [.d (ints l), .fn g []] (ri (idxOf l p 0)) := by
  refine fn_of lv150 Try.func150 rfl rfl rfl rfl ?_
  refine ⟨{ i : Nat // i ≤ l.length ∧ idxOf l p i = idxOf l p 0 }, fun i => ⟨frL [(0, .d (ints l)), (1, .fn g []), (7, di l.length), (8, di i.1)], hpL [], 0, 0⟩, fun i => l.length - i.1, ⟨0, by simp⟩,
    le_of [] rfl rfl rfl rfl trivial (tellFr_d rfl (DLe.refl _) (tellFr_fn rfl trivial (tellFr_v rfl rfl (tellFr_v rfl rfl trivial)))), ?_⟩
  rintro ⟨i, hi, hall⟩
  refine bsplit_intro (fun h => ?_) (fun h => ?_)
  · have h : i < l.length := by simp at h; exact h
    refine ask_intro ⟨by omega, by simp; omega, rfl⟩ ?_
    refine .inl ⟨_, _, rfl, hg _, rfl, ?_⟩
    refine bsplit_intro (fun h2 => ?_) (fun h2 => ?_)
    · refine ⟨⟨congrArg (Value.int .i64) (?_ : (i : Int) = _), trivial⟩, rfl⟩
      rw [← hall]; exact (idx_hit h h2).symm
    · refine ⟨⟨i + 1, by omega, ?_⟩, le_of [] rfl rfl rfl rfl trivial (tellFr_d rfl (DLe.refl _) (tellFr_fn rfl trivial (tellFr_v rfl rfl (tellFr_v rfl (congrArg (Value.int .i64) (?_ : IntKind.i64.wrap ((i : Int) + 1) = ((i + 1 : Nat) : Int))) trivial)))), ?_⟩
      · rw [← hall]; exact (idx_miss h h2).symm
      · exact wrap_i64 (i + 1) (by omega) (by omega)
      · show l.length - (i + 1) < l.length - i
        omega
  · refine ⟨⟨congrArg (Value.int .i64) (?_ : (-1 : Int) = _), trivial⟩, rfl⟩
    simp at h
    rw [← hall, idx_end h]
theorem c_slices_ContainsFunc (g : Nat) (p : Int → Bool) (hg : ∀ n, FnOK Try.prog g [di n] (rb (p n))) (l : List Int) (hl : l.length ≤ 9223372036854775807) : FnOK Try.prog 132 [.d (ints l), .fn g []] (rb (l.any p)) := by
  refine fn_of lv132 Try.func132 rfl rfl rfl rfl ?_
  refine .inl ⟨_, _, rfl, c_slices_IndexFunc g p hg _ hl, rfl, ?_⟩
  refine ⟨⟨congrArg Value.bool (?_ : decide (idxOf l p 0 ≥ 0) = _), trivial⟩, rfl⟩
  unfold idxOf
  rw [List.drop_zero]
  cases l.any p <;> simp
theorem c_impl_areWords (l : List Int) (hl : l.length ≤ 9223372036854775807) : FnOK Try.prog 89 [.d (ints l)] (rb (l.all isW)) := by
  refine fn_of lv89 Try.func89 rfl rfl rfl rfl ?_
  refine .inl ⟨_, _, rfl, c_slices_ContainsFunc 133 (fun n => !isW n) c_impl_areWords_1 _ hl, rfl, ?_⟩
  refine ⟨⟨congrArg Value.bool (?_ : (!(l.any fun n => !isW n)) = _), trivial⟩, rfl⟩
  rw [List.all_eq_not_any_not]
theorem c_slices_Clone (l : List Int) (hl : l.length * 8 ≤ 140737488355328) : FnOK Try.prog 121 [.d (ints l)] (.r (.one (.own 2 1 l.length fun i => [.v (.int .i64 (l.getD i 0))]))) := by
  refine fn_of lv121 Try.func121 rfl rfl rfl rfl ?_
  rintro r hr
  cases r with
  | true =>
    refine bsplit_true ?_
    have : l.length = 0 := by
      rcases Nat.eq_zero_or_pos l.length with h | h
      · exact h
      · exact absurd (hr h) (by simp)
    exact ⟨⟨⟨this, rfl⟩, trivial⟩, rfl⟩
  | false =>
    refine bsplit_false ?_
    refine ask_intro ⟨by show (0 + l.length) * 8 ≤ 140737488355328; omega, by omega, fun i hi => rfl⟩ ?_
    refine ⟨⟨⟨rfl, rfl, ?_, fun i hi => ⟨?_, rfl⟩⟩, trivial⟩, rfl⟩
    · exact Nat.zero_add _
    · rfl
abbrev intsF (l : List Int) (i : Nat) : List D := [.v (.int .i64 (l.getD i 0))]
abbrev oInts (l : List Int) : RC := .own 2 1 l.length (intsF l)
theorem c_laws_toInt64S (l : List Int) (hl : l.length * 8 ≤ 140737488355328) : FnOK Try.prog 46 [.d (ints l)] (.r (.one (oInts l))) := by
  refine fn_of lv46 Try.func46 rfl rfl rfl rfl ?_
  refine ask_intro ⟨rfl, by omega, by show (l.length : Int) * 8 ≤ 140737488355328; omega, by omega⟩ ?_
  refine ⟨{ i : Nat // i ≤ l.length }, fun i => ⟨frL [(0, .d (ints l)), (3, .row 96), (4, di i.1)], hpL [(96, .row 2 1 l.length fun j => if j < i.1 then intsF l j else [.v (.int .i64 0)])], 97, 0⟩, fun i => l.length - i.1, ⟨0, by omega⟩,
    le_of [(96, 4160)] rfl rfl rfl rfl (tellHp_row rfl rfl rfl (fun i hi => rfl) tellHp_nil) (tellFr_d rfl (DLe.refl _) (tellFr_row rfl rfl (tellFr_v rfl rfl trivial))), ?_⟩
  rintro ⟨i, hi⟩
  refine bsplit_intro (fun h => ?_) (fun h => ?_)
  · have h : i < l.length := by simp at h; exact h
    refine ask_intro ⟨by omega, by simp; omega, rfl⟩ ?_
    refine ask_intro ⟨by omega, by simp; omega⟩ ?_
    refine ask_intro (by show i < l.length; exact h) ?_
    refine ⟨⟨i + 1, by omega⟩, le_of [(96, 96)] rfl rfl rfl rfl (tellHp_row rfl rfl rfl (fun j hj => ?_) tellHp_nil) (tellFr_d rfl (DLe.refl _) (tellFr_row rfl rfl (tellFr_v rfl (congrArg (Value.int .i64) (?_ : IntKind.i64.wrap ((i : Int) + 1) = ((i + 1 : Nat) : Int))) trivial))), ?_⟩
    · show (if j = i then _ else if j < i then intsF l j else [.v (.int .i64 0)]) = if j < i + 1 then intsF l j else [.v (.int .i64 0)]
      by_cases h1 : j = i
      · subst h1
        rw [if_pos rfl, if_pos (by omega)]
        simp [splice, intsF]
      · rw [if_neg h1]
        by_cases h2 : j < i
        · rw [if_pos h2, if_pos (by omega)]
        · rw [if_neg h2, if_neg (by omega)]
    · exact wrap_i64 (i + 1) (by omega) (by omega)
    · show l.length - (i + 1) < l.length - i
      omega
  · simp at h
    refine ⟨⟨⟨rfl, rfl, rfl, fun j hj => ⟨?_, rfl⟩⟩, trivial⟩, rfl⟩
    show (if j < i then intsF l j else _) = _
    rw [if_pos (by omega)]
theorem drop_cons (l : List Int) (i : Nat) (h : i < l.length) : l.drop i = l.getD i 0 :: l.drop (i + 1) :=
  (List.drop_eq_getElem_cons h).trans (by rw [show l[i] = l.getD i 0 by simp [List.getD, List.getElem?_eq_getElem h]])
theorem c_laws_eqInt64S (l m : List Int) (hl : l.length ≤ 9223372036854775807) : FnOK Try.prog 50 [.d (ints l), .d (ints m)] (rb (l == m)) := by
  refine fn_of lv50 Try.func50 rfl rfl rfl rfl ?_
  refine bsplit_intro (fun h => ?_) (fun h => ?_)
  · refine ⟨⟨congrArg Value.bool (?_ : false = _), trivial⟩, rfl⟩
    simp at h
    symm
    rw [beq_eq_false_iff_ne]
    rintro rfl
    exact h rfl
  have hlen : l.length = m.length := by simp at h; omega
  refine ⟨{ i : Nat // i ≤ l.length ∧ (l.drop i == m.drop i) = (l == m) }, fun i => ⟨frL [(0, .d (ints l)), (1, .d (ints m)), (5, di i.1)], hpL [], 0, 0⟩, fun i => l.length - i.1, ⟨0, by simp⟩,
    le_of [] rfl rfl rfl rfl trivial (tellFr_d rfl (DLe.refl _) (tellFr_d rfl (DLe.refl _) (tellFr_v rfl rfl trivial))), ?_⟩
  rintro ⟨i, hi, hall⟩
  refine bsplit_intro (fun h => ?_) (fun h => ?_)
  · have h : i < l.length := by simp at h; exact h
    have hd : (l.drop i == m.drop i) = ((l.getD i 0 == m.getD i 0) && (l.drop (i + 1) == m.drop (i + 1))) := by
      rw [drop_cons l i h, drop_cons m i (by omega)]
      exact List.cons_beq_cons
    refine ask_intro ⟨by omega, by simp; omega, rfl⟩ ?_
    refine ask_intro ⟨by omega, by simp; omega, rfl⟩ ?_
    refine chk_intro rfl ?_
    refine bsplit_intro (fun h2 => ?_) (fun h2 => ?_)
    · refine ⟨⟨congrArg Value.bool (?_ : false = _), trivial⟩, rfl⟩
      have h2 : (l.getD i 0 != m.getD i 0) = true := h2
      rw [← hall, hd]
      have h2 : (l.getD i 0 == m.getD i 0) = false := by simpa [bne] using h2
      rw [h2]; rfl
    · have h2 : (l.getD i 0 != m.getD i 0) = false := h2
      refine ⟨⟨i + 1, by omega, ?_⟩, le_of [] rfl rfl rfl rfl trivial (tellFr_d rfl (DLe.refl _) (tellFr_d rfl (DLe.refl _) (tellFr_v rfl (congrArg (Value.int .i64) (?_ : IntKind.i64.wrap ((i : Int) + 1) = ((i + 1 : Nat) : Int))) trivial))), ?_⟩
      · rw [← hall, hd]
        have h2 : (l.getD i 0 == m.getD i 0) = true := by simpa [bne] using h2
        rw [h2]; rfl
      · exact wrap_i64 (i + 1) (by omega) (by omega)
      · show l.length - (i + 1) < l.length - i
        omega
  · refine ⟨⟨congrArg Value.bool (?_ : true = _), trivial⟩, rfl⟩
    simp at h
    rw [← hall, List.drop_eq_nil_of_le h, List.drop_eq_nil_of_le (by omega)]; rfl
end Go.Proofs.Ytfcekiehcchebaa.L
